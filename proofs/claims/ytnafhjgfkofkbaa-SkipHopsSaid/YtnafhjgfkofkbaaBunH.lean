/- Layer 11 (skip): Seek, Prev. -/
import Derived.Test.YtnafhjgfkofkbaaBunA
import Derived.Test.YtnafhjgfkofkbaaBunG
/- A region that draws its order, in which rows are made and get their contents, wherever their making and their stores stand. No program is in sight here. -/
namespace Go.Proofs.Ytnafhjgfkofkbaa
set_option linter.unusedVariables false
set_option linter.unusedSimpArgs false
open Go.RowKit
/-- the rows that have been made: the block of each -/
abbrev NG := Nat → Option Nat
structure NLe (Z F : Nat → Obj) (s s' : World × NG) : Prop where
  os : s'.1.os = s.1.os
  tape : s'.1.tape = s.1.tape
  output : s'.1.output = s.1.output
  size : s.1.heap.size ≤ s'.1.heap.size
  ext : ∀ i b, s.2 i = some b → s'.2 i = some b
  new : ∀ i b, s'.2 i = some b → s.2 i = some b ∨ s.1.heap.size ≤ b
  old : ∀ j, j < s.1.heap.size → (∀ i, s'.2 i ≠ some j) → s'.1.heap[j]? = s.1.heap[j]?
  held : ∀ i b, s.2 i = some b → s'.1.heap[b]? = s.1.heap[b]? ∨ s'.1.heap[b]? = some (F i)
  made : ∀ i b, s'.2 i = some b → s.2 i = none → s'.1.heap[b]? = some (Z i) ∨ s'.1.heap[b]? = some (F i)
  inj : (∀ i k b, s.2 i = some b → s.2 k = some b → i = k) → ∀ i k b, s'.2 i = some b → s'.2 k = some b → i = k
section
variable {Z F : Nat → Obj} {W w w' : World} {g : NG}
theorem NLe.refl (s : World × NG) : NLe Z F s s := ⟨rfl, rfl, rfl, Nat.le_refl _, fun _ _ h => h, fun _ _ h => .inl h, fun _ _ _ => rfl, fun _ _ _ => .inl rfl, fun i b h k => absurd (h.symm.trans k) (by simp), fun h => h⟩
theorem NLe.trans (a b c : World × NG) (h : NLe Z F a b) (k : NLe Z F b c) : NLe Z F a c := by
  refine ⟨k.os.trans h.os, k.tape.trans h.tape, k.output.trans h.output, Nat.le_trans h.size k.size, fun i x e => k.ext i x (h.ext i x e), fun i x e => ?_, fun j hj e => ?_, fun i x e => ?_, fun i x e n => ?_, fun e => k.inj (h.inj e)⟩
  · rcases k.new i x e with e1 | e1
    · exact h.new i x e1
    · exact .inr (Nat.le_trans h.size e1)
  · exact (k.old j (Nat.lt_of_lt_of_le hj h.size) e).trans (h.old j hj (fun i e2 => e i (k.ext i j e2)))
  · rcases k.held i x (h.ext i x e) with e1 | e1
    · rcases h.held i x e with e2 | e2
      · exact .inl (e1.trans e2)
      · exact .inr (e1.trans e2)
    · exact .inr e1
  · cases hb : b.2 i with
    | none => exact k.made i x e hb
    | some y =>
      have := k.ext i y hb
      rw [e] at this
      cases this
      rcases k.held i x hb with e1 | e1
      · rcases h.made i x hb n with e2 | e2
        · exact .inl (e1.trans e2)
        · exact .inr (e1.trans e2)
      · exact .inr e1
/-- where the rows' making stands -/
def PreN (al : Nat → Nat) (k : Nat) (s : World × NG) : Prop := ∀ i, al i = k → s.2 i = none
theorem PreN.start {al : Nat → Nat} (k : Nat) : PreN al k (w, fun _ => none) := fun _ _ => rfl
theorem PreN.same {al : Nat → Nat} {i : Nat} : ∀ k, k ≠ i → PreN al k (w, g) → PreN al k (w', g) := fun _ _ h => h
theorem PreN.upd {al : Nat → Nat} {i b : Nat} : ∀ k, k ≠ al i → PreN al k (w, g) → PreN al k (w', fun j => if j = i then some b else g j) := fun k hk h j hj => by
  show (if j = i then some b else g j) = none
  rw [if_neg (fun e => hk (by rw [← e]; exact hj.symm))]
  exact h j hj
def AlN (i : Nat) : Value → World × NG → Prop := fun v s => ∃ b, v = .pointer (some ⟨b, 0, none⟩) ∧ s.2 i = some b
theorem AlN.stable (i : Nat) : StableG (NLe Z F) (AlN i) := fun _ _ _ ⟨b, e, h⟩ k => ⟨b, e, k.ext i b h⟩
def StN (F : Nat → Obj) (i : Nat) : Value → World × NG → Prop := fun _ s => ∃ b, s.2 i = some b ∧ s.1.heap[b]? = some (F i)
theorem StN.stable (i : Nat) : StableG (NLe Z F) (StN F i) := fun _ s1 s2 ⟨b, e, h⟩ k => ⟨b, k.ext i b e, by
  rcases k.held i b e with h1 | h1
  · exact h1.trans h
  · exact h1⟩
/-- on the way from W -/
theorem NLe.gr0 (h : NLe Z F (W, fun _ => none) (w, g)) : Gr W w := ⟨h.os, h.tape, h.output, h.size, fun j hj => h.old j hj (fun i e => by
  rcases h.new i j e with e1 | e1
  · cases e1
  · exact absurd hj (Nat.not_lt.2 e1))⟩
theorem NLe.row (h : NLe Z F (W, fun _ => none) (w, g)) {i b : Nat} (hb : g i = some b) : W.heap.size ≤ b ∧ b < w.heap.size ∧ (w.heap[b]? = some (Z i) ∨ w.heap[b]? = some (F i)) := by
  have h1 := h.made i b hb rfl
  refine ⟨?_, ?_, h1⟩
  · rcases h.new i b hb with e | e
    · cases e
    · exact e
  · rcases h1 with e | e <;> exact (Array.getElem?_eq_some_iff.1 e).1
theorem NLe.grow (h : NLe Z F (W, fun _ => none) (w, g)) (k : Gr w w') : NLe Z F (w, g) (w', g) :=
  ⟨k.os, k.tape, k.output, k.size, fun _ _ e => e, fun _ _ e => .inl e, fun j hj _ => k.block j hj, fun i b e => .inl (k.block b (h.row e).2.1), fun i b e n => absurd ((show g i = some b from e).symm.trans n) (by simp), fun e => e⟩
theorem NLe.alloc (h : NLe Z F (W, fun _ => none) (w, g)) {i : Nat} (hi : g i = none) : NLe Z F (w, g) (w.alloc (Z i), fun j => if j = i then some w.heap.size else g j) := by
  have k := Gr.alloc w (Z i)
  refine ⟨k.os, k.tape, k.output, k.size, fun j b e => ?_, fun j b e => ?_, fun j hj _ => k.block j hj, fun j b e => .inl (k.block b (h.row e).2.1), fun j b e n => ?_, fun e j m b e1 e2 => ?_⟩
  · show (if j = i then some w.heap.size else g j) = some b
    rw [if_neg (fun x => by have e' : g j = some b := e; rw [x, hi] at e'; cases e')]
    exact e
  · have e' : (if j = i then some w.heap.size else g j) = some b := e
    by_cases x : j = i
    · rw [if_pos x] at e'; cases e'; exact .inr (Nat.le_refl _)
    · rw [if_neg x] at e'; exact .inl e'
  · have e' : (if j = i then some w.heap.size else g j) = some b := e
    by_cases x : j = i
    · rw [if_pos x] at e'; cases e'
      subst x
      exact .inl (heap_alloc_new w _)
    · rw [if_neg x] at e'
      exact absurd (e'.symm.trans n) (by simp)
  · have e1' : (if j = i then some w.heap.size else g j) = some b := e1
    have e2' : (if m = i then some w.heap.size else g m) = some b := e2
    by_cases x : j = i
    · by_cases y : m = i
      · rw [x, y]
      · rw [if_pos x] at e1'; rw [if_neg y] at e2'; cases e1'
        have := (h.row e2').2.1
        exact absurd this (Nat.lt_irrefl _)
    · by_cases y : m = i
      · rw [if_neg x] at e1'; rw [if_pos y] at e2'; cases e2'
        have := (h.row e1').2.1
        exact absurd this (Nat.lt_irrefl _)
      · rw [if_neg x] at e1'; rw [if_neg y] at e2'
        exact e j m b e1' e2'
theorem NLe.put (h : NLe Z F (W, fun _ => none) (w, g)) {i b : Nat} (hb : g i = some b) (k : w.grownBy w' (some b)) (hf : w'.heap[b]? = some (F i)) : NLe Z F (w, g) (w', g) := by
  have hinj := h.inj (fun i k b e => by cases e)
  refine ⟨k.os, k.tape, k.output, k.size, fun _ _ e => e, fun _ _ e => .inl e, fun j hj e => k.block j hj (fun x => by cases x; exact e i hb), fun j c e => ?_, fun j c e n => absurd ((show g j = some c from e).symm.trans n) (by simp), fun e => e⟩
  by_cases x : c = b
  · subst x
    rw [hinj j i c e hb]
    exact .inr hf
  · exact .inl (k.block c (h.row e).2.1 (fun y => x (Option.some.inj y)))
variable {P : Program} {al : Nat → Nat}
theorem newG_alloc (h : NLe Z F (W, fun _ => none) (w, g)) (i : Nat) (hp : PreN al (al i) (w, g)) : growG P (LePg (NLe Z F) (PreN al) (al i)) (w, g) (AlN i) (.ok (.value (.pointer (some ⟨w.heap.size, 0, none⟩))) (w.alloc (Z i))) :=
  growG_value _ _ _ _ _ (fun j => if j = i then some w.heap.size else g j) ⟨h.alloc (hp i rfl), PreN.upd⟩ ⟨_, rfl, by simp⟩
theorem newG_put (h : NLe Z F (W, fun _ => none) (w, g)) {i m : Nat} {ρ : Operand → Value} {o : Oper} (ty : TypeId) (x y : Operand) (ho : o.op = .store ty x y) {t : TypeId} {cs0 cs : List Value} {n b : Nat}
    (hx : ρ x = .pointer (some ⟨b, 0, none⟩)) (hb : g i = some b) (hy : ρ y = .agg cs.toArray) (hZ : Z i = .cells cs0.toArray t (0, 0)) (hF : F i = .cells cs.toArray t (0, 0)) (hi : (P.info? ty).map (·.size) = some n) (hn : cs0.length = n) (hn' : cs.length = n) (h1 : ∀ v ∈ cs, v.oneCell' = true) :
    growG P (LePg (NLe Z F) (PreN al) m) (w, g) (StN F i) ((execOp ρ o).run P w) := by
  have hbk : ∃ z, Blk w b t z ∧ z.length = n := by
    rcases (h.row hb).2.2 with e | e
    · rw [hZ] at e; exact ⟨cs0, e, hn⟩
    · rw [hF] at e; exact ⟨cs, e, hn'⟩
  obtain ⟨z, hz, hl⟩ := hbk
  have hr := run_storeVar_row (P := P) w b t ty z.toArray cs.toArray hz (by rw [hi]; simp [hn']) (by simp [hl, hn']) (all_oneCell_toArray h1)
  have hb2 := hz.setRow' cs
  unfold execOp
  simp only [ho, hx, hy, Instr.storeAt, Instr.sureAddr, Sem.run_bind, Sem.run_pure, Result.andThen_ok, hr]
  have hf : (w.setRow b cs.toArray).heap[b]? = some (F i) := by rw [hF]; exact hb2
  exact growG_skip g ⟨h.put hb ⟨rfl, rfl, rfl, by simp, fun k _ hk => setRow_other w b k _ (fun e => hk (by rw [e]))⟩ hf, PreN.same⟩ ⟨b, hb, hf⟩
theorem newG_call (h : NLe Z F (W, fun _ => none) (w, g)) {m : Nat} {f : FuncId} {args : Array Value} {v : Value} (hc : Calls P f args w fun e w' => e = .returned v ∧ Gr w w') :
    growG P (LePg (NLe Z F) (PreN al) m) (w, g) (IsG v) (.ok (.enter f args) w) :=
  growG_enter (hc.mono fun e w' ⟨he, hg⟩ => ⟨v, g, he, ⟨h.grow hg, PreN.same⟩, rfl⟩)
theorem newG_load (h : NLe Z F (W, fun _ => none) (w, g)) {m : Nat} {ρ : Operand → Value} {o : Oper} (ty : TypeId) (x : Operand) (ho : o.op = .load ty x) {j : Nat} {t : TypeId} {cs : List Value} {d : TypeDesc} {n : Nat} (hx : ρ x = .pointer (some ⟨j, 0, none⟩))
    (hb : Blk W j t cs) (hu : P.underlying ty = some d) (hd : d.isRow = true) (hi : (P.info? ty).map (·.size) = some n) (hn : cs.length = n) :
    growG P (LePg (NLe Z F) (PreN al) m) (w, g) (IsG (.agg cs.toArray)) ((execOp ρ o).run P w) := by
  have hr := load_blk (P := P) (ty := ty) (hb.gr h.gr0) hu hd hi hn
  unfold execOp
  simp only [ho, hx, Instr.loadAt, Instr.sureAddr, Sem.run_bind, Sem.run_pure, Result.andThen_ok, hr]
  exact growG_value _ _ _ _ _ g ⟨NLe.refl _, PreN.same⟩ rfl
end
end Go.Proofs.Ytnafhjgfkofkbaa
/- Layer 11 (skip): cursors. -/
namespace Go.Proofs.Ytnafhjgfkofkbaa
set_option linter.unusedVariables false
set_option linter.unusedSimpArgs false
open Go.RowKit Ikey Varint
/-- a cursor's cells -/
def curV (gl : Nat) (side : Int) (q : Nat × Nat) : List Value := [.pointer (some ⟨gl, 0, none⟩), .int .i64 side, .int .i64 (q.1 : Int), .int .i64 (q.2 : Int)]
theorem checkC_any (w : World) (g gl gc : Nat) (L : Ls) (side : Int) (q : Nat × Nat) (hc : Blk w gc 101 (curV gl side q)) (hb : Blk w gl 80 (lstV g L)) :
    Calls Try.prog 53 #[.pointer (some ⟨gc, 0, none⟩)] w fun e w' => e = .returned (.int .i64 (if L.fd = true then 3 else 0)) ∧ w = w' := by
  obtain ⟨c0, _, _, _⟩ := Blk.four hc
  obtain ⟨_, _, _, c30⟩ := lst_tail hb
  clear hc hb
  cases hd : L.fd with
  | true =>
    rw [hd] at c30
    go_enter Try.func53, Try.ntmps53
    go_wp2
    go_ret
    exact ⟨rfl, rfl⟩
  | false =>
    rw [hd] at c30
    go_enter Try.func53, Try.ntmps53
    go_wp2
    go_ret
    exact ⟨rfl, rfl⟩
set_option maxRecDepth 100000 in
set_option maxHeartbeats 1000000 in
theorem stand_none (w : World) (gl gc : Nat) (side off : Int) (q : Nat × Nat) (hc : Blk w gc 101 (curV gl side q)) :
    Calls Try.prog 54 #[.pointer (some ⟨gc, 0, none⟩), lnk (0, 0), .int .i64 0, .int .i64 off] w fun e w' => e = .returned (.int .i64 15) ∧ Blk w' gc 101 (curV gl off q) ∧ Chg (fun j => j = gc) w w' := by
  have g0 := Gr.alloc w (.cells #[.int .i64 0, .int .i64 0] 77)
  have HB := Lib.hid (hc.gr g0)
  obtain ⟨c0, c1, c2, c3, f0, f1, f2, f3⟩ := Blk.four (hc.gr g0)
  unfold lnk
  clear hc
  go_enter Try.func54, Try.ntmps54
  go_wp2
  go_ret
  exact ⟨rfl, HB.out.set_ 1 (.int .i64 off), (g0.chg (S := fun j => j = gc)).trans (Chg.grown (b := gc) (grown_set _ gc 1 _) (S := fun j => j = gc) rfl) (fun j hj => .inl hj)⟩
set_option maxRecDepth 100000 in
set_option maxHeartbeats 1000000 in
theorem stand_some (w : World) (gl gc : Nat) (side off : Int) (q q2 : Nat × Nat) (hc : Blk w gc 101 (curV gl side q)) (h1 : 1 ≤ q2.2) :
    Calls Try.prog 54 #[.pointer (some ⟨gc, 0, none⟩), lnk q2, .int .i64 0, .int .i64 off] w fun e w' => e = .returned (.int .i64 0) ∧ Blk w' gc 101 (curV gl 1 q2) ∧ Chg (fun j => j = gc) w w' := by
  obtain ⟨x, y⟩ := q2
  simp only at h1
  have g0 := Gr.alloc w (.cells #[.int .i64 (x : Int), .int .i64 (y : Int)] 77)
  have HB := Lib.hid (hc.gr g0)
  have hlt := hc.lt
  obtain ⟨c0, c1, c2, c3, f0, f1, f2, f3⟩ := Blk.four (hc.gr g0)
  obtain ⟨d0, d1, d2, d3, e0, e1, e2, e3⟩ := Blk.four hc
  have hne : ¬ gc = w.heap.size := by omega
  have HC := Lib.hid hc
  have hyb : ((y : Int) == 0) = false := by rw [beq_eq_false_iff_ne]; omega
  unfold lnk
  simp only
  clear hc
  go_enter Try.func54, Try.ntmps54
  go_wp2
  go_region
  go_wp2
  go_ret
  have k : w.grownBy ((((w.setCell ⟨gc, 1, none⟩ (.int .i64 1)).setCell ⟨gc, 2, none⟩ (.int .i64 (x : Int))).setCell ⟨gc, 3, none⟩ (.int .i64 (y : Int))).alloc (.cells #[.int .i64 (x : Int), .int .i64 (y : Int)] 77)).drew (some gc) :=
    grown_trans (grown_trans (grown_trans (grown_trans (grown_set w gc 1 _) (grown_set _ gc 2 _)) (grown_set _ gc 3 _)) (Gr.alloc _ _).far) (grown_drew _ _)
  exact ⟨rfl, ((((HC.out.set_ 1 (.int .i64 1)).set_ 2 (.int .i64 (x : Int))).set_ 3 (.int .i64 (y : Int))).alloc _).drew, Chg.grown (S := fun j => j = gc) k rfl⟩
end Go.Proofs.Ytnafhjgfkofkbaa
/- Layer 11 (skip): First, Last, Cell. -/
namespace Go.Proofs.Ytnafhjgfkofkbaa
set_option linter.unusedVariables false
set_option linter.unusedSimpArgs false
open Go.RowKit Ikey Varint
/-- where a cursor stands when it is told of a node -/
def stE : Option Nd → Int
  | none => 15
  | some _ => 0
def stS (off : Int) : Option Nd → Int
  | none => off
  | some _ => 1
def stQ (q : Nat × Nat) : Option Nd → Nat × Nat
  | none => q
  | some x => (x.off, x.size)
theorem stand_any (w : World) (gl gc : Nat) (side off : Int) (q : Nat × Nat) (o : Option Nd) (hc : Blk w gc 101 (curV gl side q)) (ho : ∀ x, o = some x → 1 ≤ x.size) :
    Calls Try.prog 54 #[.pointer (some ⟨gc, 0, none⟩), lnk (linkF o), .int .i64 0, .int .i64 off] w fun e w' => e = .returned (.int .i64 (stE o)) ∧ Blk w' gc 101 (curV gl (stS off o) (stQ q o)) ∧ Chg (fun j => j = gc) w w' := by
  cases o with
  | none => exact stand_none w gl gc side off q hc
  | some x => exact stand_some w gl gc side off q (x.off, x.size) hc (ho x rfl)
theorem Sl.size {w0 w : World} {S : Nat → Prop} {g gl : Nat} {p : PoolF} {L : Ls} {N : List Nd} (h : Sl w0 w S g gl p L N) {x : Nd} (hx : x ∈ N) : 1 ≤ x.size := by
  have := nd_size (h.st.node x hx).1; omega
set_option maxRecDepth 100000 in
set_option maxHeartbeats 2000000 in
theorem First_sl {w0 w : World} {S : Nat → Prop} {g gl gc : Nat} {p : PoolF} {L : Ls} {N : List Nd} {side : Int} {q : Nat × Nat} (h : Sl w0 w S g gl p L N) (hc : Blk w gc 101 (curV gl side q)) :
    Calls Try.prog 29 #[.pointer (some ⟨gc, 0, none⟩)] w fun e w' => e = .returned (.int .i64 (stE (firstN 0 N))) ∧ Blk w' gc 101 (curV gl (stS 2 (firstN 0 N)) (stQ q (firstN 0 N))) ∧ Chg (fun j => j = gc) w w' := by
  have HCK := Lib.hid (checkC_any w g gl gc L side q hc h.sk.blk)
  rw [h.fd, if_neg (by decide)] at HCK
  have HN := Lib.hid (next_none w g gl L 0 h.sk.blk (by decide))
  rw [h.st.heads 0 (by decide), show ((0 : Nat) : Int) = 0 from rfl] at HN
  have HST := Lib.hid (fun w' (hc : Blk w' gc 101 (curV gl side q)) => stand_any w' gl gc side 2 q (firstN 0 N) hc (fun x hx => h.size (firstN_mem hx)))
  have HC := Lib.hid hc
  obtain ⟨c0, _, _, _⟩ := Blk.four hc
  obtain ⟨y, hy⟩ : ∃ y : Nat × Nat, y = linkF (firstN 0 N) := ⟨_, rfl⟩
  rw [← hy] at HN HST
  generalize firstN 0 N = o at *
  obtain ⟨y1, y2⟩ := y
  unfold lnk at HN HST
  simp only at HN HST
  clear hc h hy
  go_enter Try.func29, Try.ntmps29
  go_wp2_with (first
    | (go_at_call 53; go_must (refine HCK.out.mono ?_); rintro e w2 ⟨rfl, rfl⟩)
    | (go_at_call 45; go_must (refine HN.out.mono ?_); rintro e w2 ⟨rfl, g2⟩
       have G3 := Lib.hid (g2.trans (Gr.alloc w2 (.cells #[.int .i64 (y1 : Int), .int .i64 (y2 : Int)] 77)))
       have HC3 := Lib.hid (HC.out.gr G3.out))
    | (go_at_call 54; go_must (refine (HST.out _ HC3.out).mono ?_); rintro e w4 ⟨rfl, b4, k4⟩)
    | fail)
  go_ret
  exact ⟨rfl, b4, (G3.out.chg (S := fun j => j = gc)).trans k4 (fun j hj => .inl hj)⟩
theorem last1_any (w : World) (u : Vr) : Calls Try.prog 60 #[ver u.key u.seq u.kind] w fun e w' => e = .returned (.bool true) ∧ Gr w w' := by
  unfold ver
  go_enter Try.func60, Try.ntmps60
  go_wp2
  go_ret
  exact ⟨rfl, Gr.alloc _ _⟩
theorem asks_last (w : World) : Asks w 60 #[] (fun _ => true) :=
  ⟨fun args w' => run_enter Try.func60 (by kernel_rfl) rfl args w', fun w' u hg => by
    have := last1_any w' u
    simpa using this⟩
set_option maxRecDepth 100000 in
set_option maxHeartbeats 2000000 in
theorem Last_sl {w0 w : World} {S : Nat → Prop} {g gl gc : Nat} {p : PoolF} {L : Ls} {N : List Nd} {side : Int} {q : Nat × Nat} (h : Sl w0 w S g gl p L N) (hc : Blk w gc 101 (curV gl side q)) :
    Calls Try.prog 31 #[.pointer (some ⟨gc, 0, none⟩)] w fun e w' => e = .returned (.int .i64 (stE (lastN 0 N))) ∧ Blk w' gc 101 (curV gl (stS 0 (lastN 0 N)) (stQ q (lastN 0 N))) ∧ Chg (fun j => j = gc) w w' := by
  have HCK := Lib.hid (checkC_any w g gl gc L side q hc h.sk.blk)
  rw [h.fd, if_neg (by decide)] at HCK
  have HA := Lib.hid (ahead_any w S g gl p L N [] _ _ _ h.sk (by rw [List.append_nil]; exact h.st) (by rw [List.append_nil]; exact h.full) (asks_last w) (fun x _ => rfl) (fun x hx => by simp at hx))
  have HST := Lib.hid (fun w' (hc : Blk w' gc 101 (curV gl side q)) => stand_any w' gl gc side 0 q (lastN 0 N) hc (fun x hx => by
    obtain ⟨a, b, e, _⟩ := lastN_some hx
    exact h.size (by rw [e]; simp)))
  have HC := Lib.hid hc
  obtain ⟨c0, _, _, _⟩ := Blk.four hc
  obtain ⟨R, hR⟩ : ∃ R : Nat → Nat × Nat, R = fun k => linkF (lastN k N) := ⟨_, rfl⟩
  have hR0 : linkF (lastN 0 N) = R 0 := by rw [hR]
  rw [← hR] at HA
  rw [hR0] at HST
  generalize lastN 0 N = o at *
  unfold lnk at HST
  clear hc h hR hR0
  go_enter Try.func31, Try.ntmps31
  go_wp2_with (first
    | (go_at_call 53; go_must (refine HCK.out.mono ?_); rintro e w2 ⟨rfl, rfl⟩)
    | (go_at_call 59; go_must (refine HA.out.mono ?_); rintro e w2 ⟨rfl, g2⟩
       have P3 := Lib.hid (Blk.new w2 78 (rowV (fun _ => (0, 0)) 12).toArray)
       have hlt := (HC.out.gr g2).lt)
    | ((with_reducible show Go.wpList _ _ _ (Oper.mk _ (Op.store 78 _ _) _ _ _ _ :: _) _ _); go_must (refine wp_store_row rfl _ _ _ rfl rfl (cs' := rowV R 12) rfl P3.out (n := 24) (by kernel_rfl) (rowV_len _ 12) (rowV_len _ 12) (rowV_one _ 12) ?_); intro w4 P4 k4
       have G4 := Lib.hid ((g2.trans (Gr.alloc w2 (.cells (rowV (fun _ => (0, 0)) 12).toArray 78))).grown k4 (fun k e => by cases e; exact g2.size))
       have HC4 := Lib.hid (HC.out.gr G4.out)
       obtain ⟨x0, x1⟩ := rowV_get R 12 0 (by decide)
       have d0 := P4.cell x0
       have d1 := P4.cell x1
       clear k4 P4 x0 x1)
    | (go_at_call 54; go_must (refine (HST.out _ HC4.out).mono ?_); rintro e w5 ⟨rfl, b5, k5⟩)
    | fail)
  go_ret
  exact ⟨rfl, b5, (G4.out.chg (S := fun j => j = gc)).trans k5 (fun j hj => .inl hj)⟩
end Go.Proofs.Ytnafhjgfkofkbaa
/- Layer 11 (skip): Cell, Next. -/
namespace Go.Proofs.Ytnafhjgfkofkbaa
set_option linter.unusedVariables false
set_option linter.unusedSimpArgs false
open Go.RowKit Ikey Varint
def zcE (n : Int) : Value := .tuple #[zeC, .int .i64 n]
set_option maxRecDepth 100000 in
set_option maxHeartbeats 2000000 in
theorem Cell_off {w0 w : World} {S : Nat → Prop} {g gl gc : Nat} {p : PoolF} {L : Ls} {N : List Nd} {side : Int} {q : Nat × Nat} (h : Sl w0 w S g gl p L N) (hc : Blk w gc 101 (curV gl side q)) (hs : side ≠ 1) :
    Calls Try.prog 17 #[.pointer (some ⟨gc, 0, none⟩)] w fun e w' => e = .returned (zcE 15) ∧ Gr w w' := by
  have g1 := Gr.alloc w (.cells #[.string ⟨#[]⟩, .int .i64 0, .int .i64 0, .string ⟨#[]⟩] 41)
  have HCK := Lib.hid (checkC_any _ g gl gc L side q (hc.gr g1) (h.sk.blk.gr g1))
  rw [h.fd, if_neg (by decide)] at HCK
  obtain ⟨c0, c1, _, _⟩ := Blk.four (hc.gr g1)
  have hsb : (side != 1) = true := by rw [bne_iff_ne]; exact hs
  clear hc h hs
  go_enter Try.func17, Try.ntmps17
  go_wp2_with (first
    | (go_at_call 53; go_must (refine HCK.out.mono ?_); rintro e w2 ⟨rfl, rfl⟩)
    | fail)
  refine bodyPost_ret (v := zcE 15) (by unfold zcE zeC; simp [results, Try.results17, go_sem]; try rfl) rfl ⟨rfl, ?_⟩
  have hk := Nat.le_refl w.heap.size
  first
    | exact (((g1.setCell hk _).setCell hk _).setCell hk _).setCell hk _
    | exact Gr.alloc _ _
set_option maxRecDepth 100000 in
set_option maxHeartbeats 2000000 in
theorem Cell_at {w0 w : World} {S : Nat → Prop} {g gl gc : Nat} {p : PoolF} {L : Ls} {N a b : List Nd} {x : Nd} (h : Sl w0 w S g gl p L N) (hN : N = a ++ x :: b) (hc : Blk w gc 101 (curV gl 1 (x.off, x.size))) :
    Calls Try.prog 17 #[.pointer (some ⟨gc, 0, none⟩)] w fun e w' => e = .returned (.tuple #[ceV x.c, .int .i64 0]) ∧ Gr w w' := by
  have g1 := Gr.alloc w (.cells #[.string ⟨#[]⟩, .int .i64 0, .int .i64 0, .string ⟨#[]⟩] 41)
  have HCK := Lib.hid (checkC_any _ g gl gc L 1 (x.off, x.size) (hc.gr g1) (h.sk.blk.gr g1))
  rw [h.fd, if_neg (by decide)] at HCK
  have hxm : x ∈ N := by rw [hN]; simp
  have n1 := (h.st.node x hxm).1
  have hs14 := (nd_size n1).1
  have hbl := nodeB_len x.t (fun k => linkF (firstN k b)) x.c
  have HLD := Lib.hid (fun w' (hg' : Gr w w') => lload_any w' S g gl p L (x.off, x.size) _ (h.sk.gr hg') (h.st.ld a x b hN) (by omega))
  have HCE := Lib.hid (fun b0 cap w' hc hcm hb => cell_any b0 0 cap _ x.t (fun k => linkF (firstN k b)) x.c w' n1.t1 n1.t2 n1.ok n1.vl rfl hc hcm hb)
  have hlen : 1 ≤ (nodeB x.t (fun k => linkF (firstN k b)) x.c).length := by omega
  generalize nodeB x.t (fun k => linkF (firstN k b)) x.c = bb at *
  obtain ⟨c0, c1, c2, c3, _⟩ := Blk.four (hc.gr g1)
  have HC := Lib.hid (hc.gr g1)
  have B1 := Lib.hid (Blk.new w 41 #[.string ⟨#[]⟩, .int .i64 0, .int .i64 0, .string ⟨#[]⟩])
  have G1 := Lib.hid g1
  unfold lnk at HLD
  unfold ceV at HCE ⊢
  simp only at HLD
  clear hc h hN hxm n1 hbl g1
  go_enter Try.func17, Try.ntmps17
  go_wp2_with (first
    | (go_at_call 53; go_must (refine HCK.out.mono ?_); rintro e w2 ⟨rfl, rfl⟩)
    | fail)
  refine region_any_gr _ [Is ?r0, Is ?r1, Is ?r2, Is (.pointer (some ⟨gl, 0, none⟩)), Is ?r4, Is ?r5, Is (.pointer (some ⟨gc, 2, none⟩)), Is (.agg #[.int .i64 (x.off : Int), .int .i64 (x.size : Int)]), LdT bb, LdT bb, LdB bb, Is (.int .i64 0), LdB bb, Is (.int .i64 0)] (by kernel_rfl) (by kernel_rfl) (by kernel_rfl) rfl rfl ⟨Is.stable _, Is.stable _, Is.stable _, Is.stable _, Is.stable _, Is.stable _, Is.stable _, Is.stable _, LdT.stable bb, LdT.stable bb, LdB.stable bb, Is.stable _, LdB.stable bb, Is.stable _, trivial⟩ ⟨?s0, ?s1, ?s2, ?s3, ?s4, ?s5, ?s6, ?s7, ?s8, ?s9, ?s10, ?s11, ?s12, ?s13, trivial⟩ ?fin
  case' s0 | s1 | s2 | s3 | s4 | s5 | s6 | s7 | s8 | s9 | s10 | s11 | s12 | s13 =>
    intro ρ wr hρ hg hK
    simp [readsOf, slotsOf, Op.operands, Call.operands, tmpOf, List.filterMap_cons, List.filterMap_nil, KnownAll, knownOf, srcOf, depsOf, dstOf, Region.binds, nth, Is] at hK
    obtain ⟨hc, hf, hgl⟩ := hρ
    try simp only [wantedBy, dstOf, boolOf, nth, List.getD_cons_zero, List.getD_cons_succ, List.getElem?_cons_zero, List.getElem?_cons_succ, Option.bind_some, if_true, hK, BEq.rfl]
    try go_simp
    first | exact rfl | (rw [if_pos (by omega)]; exact is_here rfl) | (rw [dif_pos (by omega)]; exact is_here rfl) | exact congrArg (Value.int _) (IntWalk.i64_in _ ⟨by omega, by omega⟩) | skip
  case s3 =>
    obtain ⟨d0, d1, d2, d3, _⟩ := Blk.four (HC.out.gr hg)
    go_simp
    exact rfl
  case s7 =>
    obtain ⟨d0, d1, d2, d3, _⟩ := Blk.four (HC.out.gr hg)
    go_simp
    exact rfl
  case s8 =>
    refine (HLD.out _ (G1.out.trans hg)).mono ?_
    rintro e w2 ⟨v, he, hg2, h⟩
    exact ⟨v, he, hg2, h⟩
  case s10 =>
    obtain ⟨s, e, hs⟩ := hK
    rw [e]
    exact ⟨Gr.refl _, hs⟩
  case s11 =>
    obtain ⟨s, e, hs⟩ := hK
    rw [e]
    exact is_here rfl
  case fin =>
    intro w1 val hg hH
    simp only [Holds, Is, Nat.zero_add, Nat.reduceAdd] at hH
    obtain ⟨h0, h1, h2, h3, h4, h5, h6, h7, h8, h9, h10, h11, h12, h13, _⟩ := hH
    simp only [List.take_succ_cons, List.take_zero, List.drop_succ_cons, List.drop_zero, putAll, h0, h1, h2, h3, h4, h5, h6, h7, h11, h13, Nat.zero_add, Nat.reduceAdd]
    obtain ⟨gb, cap, e12, hc1, hc2, hb⟩ := h12
    have HBY := Lib.hid hb
    have G2 := Lib.hid (G1.out.trans hg)
    have B2 := Lib.hid (B1.out.gr hg)
    simp only [e12]
    clear hb h8 h9 h10 hg
    go_simp
    go_wp2_with (first
      | (go_at_call 56; go_must (refine (HCE.out _ _ _ hc1 hc2 HBY.out).mono ?_); rintro e w7 ⟨rfl, g7⟩
         have G7 := Lib.hid (G2.out.trans g7)
         have B7 := Lib.hid (B2.out.gr g7))
      | ((with_reducible show Go.wpList _ _ _ (Oper.mk _ (Op.store 41 (Operand.tmp 2) _) _ _ _ _ :: _) _ _); go_must (refine wp_store_row rfl _ _ _ rfl rfl (cs' := [.string (str x.c.key), .int .i64 (x.c.seq : Int), .int .i64 (x.c.kind : Int), .string (str x.c.val)]) rfl B7.out (n := 4) (by kernel_rfl) rfl rfl (fun v hv => by simp at hv; rcases hv with rfl | rfl | rfl | rfl <;> rfl) ?_); intro w8 B8 k8
         have G8 := Lib.hid (G7.out.grown k8 (fun k e => by cases e; exact Nat.le_refl _))
         obtain ⟨z0, z1, z2, z3, _⟩ := B8.four
         clear k8 B8)
      | fail)
    refine bodyPost_ret (v := .tuple #[ceV x.c, .int .i64 0]) (by unfold ceV; simp [results, Try.results17, go_sem, z0, z1, z2, z3]; try rfl) rfl ⟨rfl, G8.out⟩
def Z1 : Nat → Obj := fun _ => .cells #[.int .i64 0, .int .i64 0] 77 (0, 0)
def F1 (q : Nat × Nat) : Nat → Obj := fun _ => .cells #[.int .i64 (q.1 : Int), .int .i64 (q.2 : Int)] 77 (0, 0)
set_option maxRecDepth 100000 in
set_option maxHeartbeats 2000000 in
theorem Next_at {w0 w : World} {S : Nat → Prop} {g gl gc : Nat} {p : PoolF} {L : Ls} {N a b : List Nd} {x : Nd} (h : Sl w0 w S g gl p L N) (hN : N = a ++ x :: b) (hc : Blk w gc 101 (curV gl 1 (x.off, x.size))) :
    Calls Try.prog 19 #[.pointer (some ⟨gc, 0, none⟩)] w fun e w' => e = .returned (.int .i64 (stE (firstN 0 b))) ∧ Blk w' gc 101 (curV gl (stS 2 (firstN 0 b)) (stQ (x.off, x.size) (firstN 0 b))) ∧ Chg (fun j => j = gc) w w' := by
  have HCK := Lib.hid (checkC_any w g gl gc L 1 (x.off, x.size) hc h.sk.blk)
  rw [h.fd, if_neg (by decide)] at HCK
  have hxm : x ∈ N := by rw [hN]; simp
  have HN := Lib.hid (fun w' (hg : Gr w w') => next_any w' S g gl p L N b (some x) 0 (h.sk.gr hg) h.st (.inr ⟨a, x, rfl, hN, (h.st.node x hxm).1.t1⟩) (by decide))
  rw [show ((0 : Nat) : Int) = 0 from rfl, show linkF (some x) = (x.off, x.size) from rfl] at HN
  have HST := Lib.hid (fun w' (hc : Blk w' gc 101 (curV gl 1 (x.off, x.size))) => stand_any w' gl gc 1 2 (x.off, x.size) (firstN 0 b) hc (fun y hy => h.size (by rw [hN]; have := firstN_mem hy; simp [this])))
  have HC := Lib.hid hc
  obtain ⟨c0, c1, c2, c3, _⟩ := Blk.four hc
  obtain ⟨y, hy⟩ : ∃ y : Nat × Nat, y = linkF (firstN 0 b) := ⟨_, rfl⟩
  rw [← hy] at HN HST
  generalize firstN 0 b = o at *
  obtain ⟨y1, y2⟩ := y
  unfold lnk at HN HST
  simp only at HN HST
  clear hc h hy hN hxm
  go_enter Try.func19, Try.ntmps19
  go_wp2_with (first
    | (go_at_call 53; go_must (refine HCK.out.mono ?_); rintro e w2 ⟨rfl, rfl⟩)
    | fail)
  refine region_ghost (Le := NLe Z1 (F1 (y1, y2))) (PreN (fun i => i + 12)) NLe.refl NLe.trans (fun _ => none) PreN.start _ [IsG ?r0x1, IsG ?r1x1, IsG ?r2x1, IsG (.pointer (some ⟨gl, 0, none⟩)), IsG ?r4x1, IsG ?r5x1, IsG (.pointer (some ⟨gc, 2, none⟩)), IsG (.agg #[.int .i64 (x.off : Int), .int .i64 (x.size : Int)]), IsG (.tuple #[.agg #[.int .i64 (y1 : Int), .int .i64 (y2 : Int)], .int .i64 0]), IsG (.tuple #[.agg #[.int .i64 (y1 : Int), .int .i64 (y2 : Int)], .int .i64 0]), IsG (.agg #[.int .i64 (y1 : Int), .int .i64 (y2 : Int)]), IsG (.int .i64 0), AlN 0, StN (F1 (y1, y2)) 0, IsG (.int .i64 0)] (by kernel_rfl) (by kernel_rfl) (by kernel_rfl) rfl rfl ⟨IsG.stable _, IsG.stable _, IsG.stable _, IsG.stable _, IsG.stable _, IsG.stable _, IsG.stable _, IsG.stable _, IsG.stable _, IsG.stable _, IsG.stable _, IsG.stable _, AlN.stable 0, StN.stable 0, IsG.stable _, trivial⟩ ⟨?s0x1, ?s1x1, ?s2x1, ?s3x1, ?s4x1, ?s5x1, ?s6x1, ?s7x1, ?s8x1, ?s9x1, ?s10x1, ?s11x1, ?s12x1, ?s13x1, ?s14x1, trivial⟩ ?finx1
  case' s0x1 | s1x1 | s2x1 | s3x1 | s4x1 | s5x1 | s6x1 | s7x1 | s8x1 | s9x1 | s10x1 | s11x1 | s14x1 =>
    intro ρ wr gh hρ hg hK
    simp [readsOf, slotsOf, Op.operands, Call.operands, tmpOf, List.filterMap_cons, List.filterMap_nil, KnownAll, knownOf, srcOf, depsOf, dstOf, Region.binds, nthG, IsG, IsS] at hK
    obtain ⟨hc, hf, hgl⟩ := hρ
    try simp only [wantedBy, dstOf, boolOf, nthG, List.getD_cons_zero, List.getD_cons_succ, List.getElem?_cons_zero, List.getElem?_cons_succ, Option.bind_some, if_true, hK, BEq.rfl]
    try go_simp
    first | exact rfl | exact pureG NLe.refl rfl | (refine pureG NLe.refl ?_; go_simp; done) | (refine pureG NLe.refl ?_; rfl) | (rw [if_pos (by omega)]; exact pureG NLe.refl rfl) | (rw [dif_pos (by omega)]; exact pureG NLe.refl rfl) | exact pureG NLe.refl (congrArg (Value.int _) (IntWalk.i64_in _ ⟨by omega, by omega⟩)) | skip
  case' s12x1 | s13x1 =>
    intro ρ wr gh hρ hg hK
    simp [readsOf, slotsOf, Op.operands, Call.operands, tmpOf, List.filterMap_cons, List.filterMap_nil, KnownAll, knownOf, srcOf, depsOf, dstOf, Region.binds, nthG, IsG, IsS] at hK
    obtain ⟨hc, hf, hgl⟩ := hρ
    try simp only [wantedBy, dstOf, boolOf, nthG, List.getD_cons_zero, List.getD_cons_succ, List.getElem?_cons_zero, List.getElem?_cons_succ, Option.bind_some, if_true, hK, BEq.rfl]
  case s3x1 =>
    have d0 := hg.1.gr0.cell ((Gr.drew w).cell c0)
    go_simp
    exact pureG NLe.refl rfl
  case s7x1 =>
    have d2 := hg.1.gr0.cell ((Gr.drew w).cell c2)
    have d3 := hg.1.gr0.cell ((Gr.drew w).cell c3)
    go_simp
    exact pureG NLe.refl rfl
  case s8x1 =>
    have HL := Lib.hid hg.1
    have hgr := (Gr.drew w).trans hg.1.gr0
    clear hg
    exact newG_call HL.out (HN.out _ hgr)
  case s12x1 =>
    have HL := Lib.hid hg.1
    have HP := Lib.hid (hg.2 12 (by kernel_rfl))
    clear hg
    go_simp
    exact newG_alloc (al := fun i => i + 12) HL.out 0 HP.out
  case s13x1 =>
    obtain ⟨⟨bq, e4, hb⟩, e31⟩ := hK
    exact newG_put (i := 0) hg.1 _ _ _ rfl e4 hb e31 rfl rfl (n := 2) (by kernel_rfl) rfl rfl (fun v hv => by simp at hv; rcases hv with rfl | rfl <;> rfl)
  case finx1 =>
    intro w1 g1 val hg hH
    simp only [HoldsG, IsG, IsS, Nat.zero_add, Nat.reduceAdd] at hH
    obtain ⟨h0, h1, h2, h3, h4, h5, h6, h7, h8, h9, h10, h11, h12, h13, h14, _⟩ := hH
    simp only [List.take_succ_cons, List.take_zero, List.drop_succ_cons, List.drop_zero, putAll, h0, h1, h2, h3, h4, h5, h6, h7, h8, h9, h10, h11, h14, Nat.zero_add, Nat.reduceAdd]
    obtain ⟨bq, e12, hb⟩ := h12
    obtain ⟨b2, hb2, hf2⟩ := h13
    have eb : b2 = bq := by rw [hb] at hb2; cases hb2; rfl
    rw [eb] at hf2
    have G3 := Lib.hid ((Gr.drew w).trans hg.gr0)
    have hn := hg.row hb
    have BN : Blk w1 bq 77 [.int .i64 (y1 : Int), .int .i64 (y2 : Int)] := hf2
    obtain ⟨n0, n1, _, _⟩ := BN.two
    have HC3 := Lib.hid (HC.out.gr G3.out)
    simp only [e12]
    clear hg hn hf2 hb hb2 BN
    go_simp
    go_wp2_with (first
      | (go_at_call 54; go_must (refine (HST.out _ HC3.out).mono ?_); rintro e w4 ⟨rfl, b4, k4⟩)
      | fail)
    go_ret
    exact ⟨rfl, b4, (G3.out.chg (S := fun j => j = gc)).trans k4 (fun j hj => .inl hj)⟩
end Go.Proofs.Ytnafhjgfkofkbaa
namespace Go.Proofs.Ytnafhjgfkofkbaa
set_option linter.unusedVariables false
set_option linter.unusedSimpArgs false
open Go.RowKit Ikey Varint
def Z2 : Nat → Obj := fun i => if i = 0 then .cells (rowV (fun _ => (0, 0)) 12).toArray 78 (0, 0) else .cells #[.int .i64 0, .int .i64 0] 77 (0, 0)
def F2 (R : Nat → Nat × Nat) (q : Nat × Nat) : Nat → Obj := fun i => if i = 0 then .cells (rowV R 12).toArray 78 (0, 0) else .cells #[.int .i64 (q.1 : Int), .int .i64 (q.2 : Int)] 77 (0, 0)
theorem behind_at {w0 w : World} {S : Nat → Prop} {g gl : Nat} {p : PoolF} {L : Ls} {N A B : List Nd} (h : Sl w0 w S g gl p L N) (v : Vr) (hN : N = A ++ B) (hA : ∀ x ∈ A, vless x.c.vr v = true) (hB : ∀ x ∈ B, vless x.c.vr v = false) (w' : World) (hg : Gr w w') :
    Calls Try.prog 41 #[.pointer (some ⟨gl, 0, none⟩), ver v.key v.seq v.kind] w' fun e w2 => e = .returned (.tuple #[.agg (rowV (fun k => linkF (lastN k A)) 12).toArray, lnk (linkF (firstN 0 B)), .int .i64 0]) ∧ Gr w' w2 :=
  behind_any w' S g gl p L A B v (h.sk.gr hg) (hN ▸ h.st) (hN ▸ h.full) hA hB
set_option maxRecDepth 100000 in
set_option maxHeartbeats 2000000 in
theorem Seek_sl {w0 w : World} {S : Nat → Prop} {g gl gc : Nat} {p : PoolF} {L : Ls} {N A B : List Nd} {side : Int} {q : Nat × Nat} (h : Sl w0 w S g gl p L N) (v : Vr) (hN : N = A ++ B) (hA : ∀ x ∈ A, vless x.c.vr v = true) (hB : ∀ x ∈ B, vless x.c.vr v = false) (hc : Blk w gc 101 (curV gl side q)) :
    Calls Try.prog 16 #[.pointer (some ⟨gc, 0, none⟩), ver v.key v.seq v.kind] w fun e w' => e = .returned (.int .i64 (stE (firstN 0 B))) ∧ Blk w' gc 101 (curV gl (stS 2 (firstN 0 B)) (stQ q (firstN 0 B))) ∧ Chg (fun j => j = gc) w w' := by
  have g1 := Gr.alloc w (.cells #[.string (str v.key), .int .i64 v.seq, .int .i64 v.kind] 33)
  have HCK := Lib.hid (checkC_any _ g gl gc L side q (hc.gr g1) (h.sk.blk.gr g1))
  rw [h.fd, if_neg (by decide)] at HCK
  have HBE := Lib.hid (fun w' (hg : Gr w w') => behind_at h v hN hA hB w' hg)
  have HST := Lib.hid (fun w' (hc : Blk w' gc 101 (curV gl side q)) => stand_any w' gl gc side 2 q (firstN 0 B) hc (fun y hy => h.size (by rw [hN]; have := firstN_mem hy; simp [this])))
  obtain ⟨c0, c1, c2, c3, _⟩ := Blk.four (hc.gr g1)
  obtain ⟨v0, v1, v2, _⟩ := (Blk.new w 33 #[.string (str v.key), .int .i64 v.seq, .int .i64 v.kind]).three
  have HC := Lib.hid (hc.gr g1)
  have G1 := Lib.hid g1
  obtain ⟨R, hR⟩ : ∃ R : Nat → Nat × Nat, R = fun k => linkF (lastN k A) := ⟨_, rfl⟩
  rw [← hR] at HBE
  obtain ⟨y, hy⟩ : ∃ y : Nat × Nat, y = linkF (firstN 0 B) := ⟨_, rfl⟩
  rw [← hy] at HBE HST
  generalize firstN 0 B = o at *
  obtain ⟨y1, y2⟩ := y
  unfold lnk at HBE HST
  unfold ver at HBE ⊢
  simp only at HBE HST
  clear hc h hy hN hA hB hR g1
  go_enter Try.func16, Try.ntmps16
  go_wp2_with (first
    | (go_at_call 53; go_must (refine HCK.out.mono ?_); rintro e w2 ⟨rfl, rfl⟩)
    | fail)
  generalize hW1 : (w.alloc (.cells #[.string (str v.key), .int .i64 v.seq, .int .i64 v.kind] 33)) = W1 at *
  clear hW1
  refine region_ghost (Le := NLe Z2 (F2 R (y1, y2))) (PreN (fun i => i + 10)) NLe.refl NLe.trans (fun _ => none) PreN.start _ [IsG ?r0, IsG ?r1, IsG ?r2, IsG (.pointer (some ⟨gl, 0, none⟩)), IsG (.agg #[.string (str v.key), .int .i64 v.seq, .int .i64 v.kind]), IsG (.tuple #[.agg (rowV R 12).toArray, .agg #[.int .i64 (y1 : Int), .int .i64 (y2 : Int)], .int .i64 0]), IsG (.tuple #[.agg (rowV R 12).toArray, .agg #[.int .i64 (y1 : Int), .int .i64 (y2 : Int)], .int .i64 0]), IsG (.agg (rowV R 12).toArray), IsG (.agg #[.int .i64 (y1 : Int), .int .i64 (y2 : Int)]), IsG (.int .i64 0), AlN 0, AlN 1, StN (F2 R (y1, y2)) 0, StN (F2 R (y1, y2)) 1, IsG (.int .i64 0)] (by kernel_rfl) (by kernel_rfl) (by kernel_rfl) rfl rfl ⟨IsG.stable _, IsG.stable _, IsG.stable _, IsG.stable _, IsG.stable _, IsG.stable _, IsG.stable _, IsG.stable _, IsG.stable _, IsG.stable _, AlN.stable 0, AlN.stable 1, StN.stable 0, StN.stable 1, IsG.stable _, trivial⟩ ⟨?s0, ?s1, ?s2, ?s3, ?s4, ?s5, ?s6, ?s7, ?s8, ?s9, ?s10, ?s11, ?s12, ?s13, ?s14, trivial⟩ ?fin
  case' s0 | s1 | s2 | s3 | s4 | s5 | s6 | s7 | s8 | s9 | s14 =>
    intro ρ wr gh hρ hg hK
    simp [readsOf, slotsOf, Op.operands, Call.operands, tmpOf, List.filterMap_cons, List.filterMap_nil, KnownAll, knownOf, srcOf, depsOf, dstOf, Region.binds, nthG, IsG, IsS] at hK
    obtain ⟨hc, hf, hgl⟩ := hρ
    try simp only [wantedBy, dstOf, boolOf, nthG, List.getD_cons_zero, List.getD_cons_succ, List.getElem?_cons_zero, List.getElem?_cons_succ, Option.bind_some, if_true, hK, BEq.rfl]
    try go_simp
    first | exact rfl | exact pureG NLe.refl rfl | (refine pureG NLe.refl ?_; go_simp; done) | (refine pureG NLe.refl ?_; rfl) | (rw [if_pos (by omega)]; exact pureG NLe.refl rfl) | (rw [dif_pos (by omega)]; exact pureG NLe.refl rfl) | exact pureG NLe.refl (congrArg (Value.int _) (IntWalk.i64_in _ ⟨by omega, by omega⟩)) | skip
  case' s10 | s11 | s12 | s13 =>
    intro ρ wr gh hρ hg hK
    simp [readsOf, slotsOf, Op.operands, Call.operands, tmpOf, List.filterMap_cons, List.filterMap_nil, KnownAll, knownOf, srcOf, depsOf, dstOf, Region.binds, nthG, IsG, IsS] at hK
    obtain ⟨hc, hf, hgl⟩ := hρ
    try simp only [wantedBy, dstOf, boolOf, nthG, List.getD_cons_zero, List.getD_cons_succ, List.getElem?_cons_zero, List.getElem?_cons_succ, Option.bind_some, if_true, hK, BEq.rfl]
  case s3 =>
    have d0 := hg.1.gr0.cell ((Gr.drew W1).cell c0)
    go_simp
    exact pureG NLe.refl rfl
  case s4 =>
    have d0 := hg.1.gr0.cell ((Gr.drew W1).cell v0)
    have d1 := hg.1.gr0.cell ((Gr.drew W1).cell v1)
    have d2 := hg.1.gr0.cell ((Gr.drew W1).cell v2)
    go_simp
    exact pureG NLe.refl rfl
  case s5 =>
    have HL := Lib.hid hg.1
    have hgr := G1.out.trans ((Gr.drew W1).trans hg.1.gr0)
    clear hg
    exact newG_call HL.out (HBE.out _ hgr)
  case s10 =>
    have HL := Lib.hid hg.1
    have HP := Lib.hid (hg.2 10 (by kernel_rfl))
    clear hg
    go_simp
    exact newG_alloc (al := fun i => i + 10) HL.out 0 HP.out
  case s11 =>
    have HL := Lib.hid hg.1
    have HP := Lib.hid (hg.2 11 (by kernel_rfl))
    clear hg
    go_simp
    exact newG_alloc (al := fun i => i + 10) HL.out 1 HP.out
  case s12 =>
    obtain ⟨⟨bq, e4, hb⟩, e31⟩ := hK
    exact newG_put (i := 0) (cs0 := rowV (fun _ => (0, 0)) 12) (cs := rowV R 12) hg.1 _ _ _ rfl e4 hb e31 rfl rfl (n := 24) (by kernel_rfl) (rowV_len _ 12) (rowV_len _ 12) (rowV_one _ 12)
  case s13 =>
    obtain ⟨⟨bq, e4, hb⟩, e31⟩ := hK
    exact newG_put (i := 1) (cs0 := [.int .i64 0, .int .i64 0]) (cs := [.int .i64 (y1 : Int), .int .i64 (y2 : Int)]) hg.1 _ _ _ rfl e4 hb e31 rfl rfl (n := 2) (by kernel_rfl) rfl rfl (fun v hv => by simp at hv; rcases hv with rfl | rfl <;> rfl)
  case fin =>
    intro w1 g1 val hg hH
    simp only [HoldsG, IsG, IsS, Nat.zero_add, Nat.reduceAdd] at hH
    obtain ⟨h0, h1, h2, h3, h4, h5, h6, h7, h8, h9, h10, h11, h12, h13, h14, _⟩ := hH
    simp only [List.take_succ_cons, List.take_zero, List.drop_succ_cons, List.drop_zero, putAll, h0, h1, h2, h3, h4, h5, h6, h7, h8, h9, h14, Nat.zero_add, Nat.reduceAdd]
    obtain ⟨bp, e10, hb0⟩ := h10
    obtain ⟨bq, e11, hb⟩ := h11
    obtain ⟨b2, hb2, hf2⟩ := h13
    have eb : b2 = bq := by rw [hb] at hb2; cases hb2; rfl
    rw [eb] at hf2
    have G3 := Lib.hid (G1.out.trans ((Gr.drew W1).trans hg.gr0))
    have BN : Blk w1 bq 77 [.int .i64 (y1 : Int), .int .i64 (y2 : Int)] := hf2
    obtain ⟨n0, n1, _, _⟩ := BN.two
    have HC3 := Lib.hid (HC.out.gr ((Gr.drew W1).trans hg.gr0))
    simp only [e10, e11]
    clear hg hf2 hb hb2 BN h12 hb0 e10 e11
    go_simp
    go_wp2_with (first
      | (go_at_call 54; go_must (refine (HST.out _ HC3.out).mono ?_); rintro e w4 ⟨rfl, b4, k4⟩)
      | fail)
    go_ret
    exact ⟨rfl, b4, (G3.out.chg (S := fun j => j = gc)).trans k4 (fun j hj => .inl hj)⟩
theorem split_at {N a b : List Nd} {x : Nd} (hs : N.Pairwise Asc) (hN : N = a ++ x :: b) : (∀ y ∈ a, vless y.c.vr x.c.vr = true) ∧ ∀ y ∈ x :: b, vless y.c.vr x.c.vr = false := by
  rw [hN] at hs
  obtain ⟨h1, h2⟩ := pair_at hs
  refine ⟨h1, fun y hy => ?_⟩
  rcases List.mem_cons.1 hy with rfl | hy
  · exact vless_irr _
  · exact vless_asymm (h2 y hy)
set_option maxRecDepth 100000 in
set_option maxHeartbeats 2000000 in
theorem Prev_at {w0 w : World} {S : Nat → Prop} {g gl gc : Nat} {p : PoolF} {L : Ls} {N a b : List Nd} {x : Nd} (h : Sl w0 w S g gl p L N) (hN : N = a ++ x :: b) (hc : Blk w gc 101 (curV gl 1 (x.off, x.size))) :
    Calls Try.prog 18 #[.pointer (some ⟨gc, 0, none⟩)] w fun e w' => e = .returned (.int .i64 (stE (lastN 0 a))) ∧ Blk w' gc 101 (curV gl (stS 0 (lastN 0 a)) (stQ (x.off, x.size) (lastN 0 a))) ∧ Chg (fun j => j = gc) w w' := by
  have HCK := Lib.hid (checkC_any w g gl gc L 1 (x.off, x.size) hc h.sk.blk)
  rw [h.fd, if_neg (by decide)] at HCK
  have HCE := Lib.hid (Cell_at h hN hc)
  obtain ⟨hA, hB⟩ := split_at h.st.sorted hN
  have HBE := Lib.hid (fun w' (hg : Gr w w') => behind_at h x.c.vr hN hA hB w' hg)
  have HST := Lib.hid (fun w' (hc : Blk w' gc 101 (curV gl 1 (x.off, x.size))) => stand_any w' gl gc 1 0 (x.off, x.size) (lastN 0 a) hc (fun y hy => by
    obtain ⟨a1, b1, e, _⟩ := lastN_some hy
    exact h.size (by rw [hN, e]; simp)))
  obtain ⟨c0, c1, c2, c3, _⟩ := Blk.four hc
  have HC := Lib.hid hc
  obtain ⟨R, hR⟩ : ∃ R : Nat → Nat × Nat, R = fun k => linkF (lastN k a) := ⟨_, rfl⟩
  have hR0 : linkF (lastN 0 a) = R 0 := by rw [hR]
  rw [← hR] at HBE
  rw [hR0] at HST
  obtain ⟨y, hy⟩ : ∃ y : Nat × Nat, y = linkF (firstN 0 (x :: b)) := ⟨_, rfl⟩
  rw [← hy] at HBE
  generalize lastN 0 a = o at *
  obtain ⟨y1, y2⟩ := y
  unfold lnk at HBE HST
  unfold ver Ce.vr at HBE
  unfold ceV at HCE
  simp only at HBE HST
  clear hc h hy hN hA hB hR hR0
  go_enter Try.func18, Try.ntmps18
  go_wp2_with (first
    | (go_at_call 53; go_must (refine HCK.out.mono ?_); rintro e w2 ⟨rfl, rfl⟩)
    | (go_at_call 17; go_must (refine HCE.out.mono ?_); rintro e w2 ⟨rfl, g2⟩
       have BV := Lib.hid (Blk.new w2 41 #[.string (str x.c.key), .int .i64 (x.c.seq : Int), .int .i64 (x.c.kind : Int), .string (str x.c.val)])
       have G2 := Lib.hid (g2.trans (Gr.alloc w2 (.cells #[.string (str x.c.key), .int .i64 (x.c.seq : Int), .int .i64 (x.c.kind : Int), .string (str x.c.val)] 41))))
    | fail)
  have HC1 := Lib.hid (HC.out.gr G2.out)
  generalize hW1 : (w2.alloc (.cells #[.string (str x.c.key), .int .i64 (x.c.seq : Int), .int .i64 (x.c.kind : Int), .string (str x.c.val)] 41)) = W1 at *
  clear hW1
  refine region_ghost (Le := NLe Z2 (F2 R (y1, y2))) (PreN (fun i => i + 11)) NLe.refl NLe.trans (fun _ => none) PreN.start _ [IsG ?r0x1, IsG ?r1x1, IsG ?r2x1, IsG (.pointer (some ⟨gl, 0, none⟩)), IsG ?r4x1, IsG (.agg #[.string (str x.c.key), .int .i64 (x.c.seq : Int), .int .i64 (x.c.kind : Int)]), IsG (.tuple #[.agg (rowV R 12).toArray, .agg #[.int .i64 (y1 : Int), .int .i64 (y2 : Int)], .int .i64 0]), IsG (.tuple #[.agg (rowV R 12).toArray, .agg #[.int .i64 (y1 : Int), .int .i64 (y2 : Int)], .int .i64 0]), IsG (.agg (rowV R 12).toArray), IsG (.agg #[.int .i64 (y1 : Int), .int .i64 (y2 : Int)]), IsG (.int .i64 0), AlN 0, AlN 1, StN (F2 R (y1, y2)) 0, StN (F2 R (y1, y2)) 1, IsG (.int .i64 0)] (by kernel_rfl) (by kernel_rfl) (by kernel_rfl) rfl rfl ⟨IsG.stable _, IsG.stable _, IsG.stable _, IsG.stable _, IsG.stable _, IsG.stable _, IsG.stable _, IsG.stable _, IsG.stable _, IsG.stable _, IsG.stable _, AlN.stable 0, AlN.stable 1, StN.stable 0, StN.stable 1, IsG.stable _, trivial⟩ ⟨?s0x1, ?s1x1, ?s2x1, ?s3x1, ?s4x1, ?s5x1, ?s6x1, ?s7x1, ?s8x1, ?s9x1, ?s10x1, ?s11x1, ?s12x1, ?s13x1, ?s14x1, ?s15x1, trivial⟩ ?finx1
  case' s0x1 | s1x1 | s2x1 | s3x1 | s4x1 | s5x1 | s6x1 | s7x1 | s8x1 | s9x1 | s10x1 | s15x1 =>
    intro ρ wr gh hρ hg hK
    simp [readsOf, slotsOf, Op.operands, Call.operands, tmpOf, List.filterMap_cons, List.filterMap_nil, KnownAll, knownOf, srcOf, depsOf, dstOf, Region.binds, nthG, IsG, IsS] at hK
    obtain ⟨hc, hf, hgl⟩ := hρ
    try simp only [wantedBy, dstOf, boolOf, nthG, List.getD_cons_zero, List.getD_cons_succ, List.getElem?_cons_zero, List.getElem?_cons_succ, Option.bind_some, if_true, hK, BEq.rfl]
    try go_simp
    first | exact rfl | exact pureG NLe.refl rfl | (refine pureG NLe.refl ?_; go_simp; done) | (refine pureG NLe.refl ?_; rfl) | (rw [if_pos (by omega)]; exact pureG NLe.refl rfl) | (rw [dif_pos (by omega)]; exact pureG NLe.refl rfl) | exact pureG NLe.refl (congrArg (Value.int _) (IntWalk.i64_in _ ⟨by omega, by omega⟩)) | skip
  case' s11x1 | s12x1 | s13x1 | s14x1 =>
    intro ρ wr gh hρ hg hK
    simp [readsOf, slotsOf, Op.operands, Call.operands, tmpOf, List.filterMap_cons, List.filterMap_nil, KnownAll, knownOf, srcOf, depsOf, dstOf, Region.binds, nthG, IsG, IsS] at hK
    obtain ⟨hc, hf, hgl⟩ := hρ
    try simp only [wantedBy, dstOf, boolOf, nthG, List.getD_cons_zero, List.getD_cons_succ, List.getElem?_cons_zero, List.getElem?_cons_succ, Option.bind_some, if_true, hK, BEq.rfl]
  case s3x1 =>
    obtain ⟨d0, _, _, _, _⟩ := Blk.four (HC1.out.gr ((Gr.drew W1).trans hg.1.gr0))
    go_simp
    exact pureG NLe.refl rfl
  case s5x1 =>
    obtain ⟨d0, d1, d2, _, _⟩ := Blk.four (BV.out.gr ((Gr.drew W1).trans hg.1.gr0))
    go_simp
    exact pureG NLe.refl rfl
  case s6x1 =>
    have HL := Lib.hid hg.1
    have hgr := G2.out.trans ((Gr.drew W1).trans hg.1.gr0)
    clear hg
    exact newG_call HL.out (HBE.out _ hgr)
  case s11x1 =>
    have HL := Lib.hid hg.1
    have HP := Lib.hid (hg.2 11 (by kernel_rfl))
    clear hg
    go_simp
    exact newG_alloc (al := fun i => i + 11) HL.out 0 HP.out
  case s12x1 =>
    have HL := Lib.hid hg.1
    have HP := Lib.hid (hg.2 12 (by kernel_rfl))
    clear hg
    go_simp
    exact newG_alloc (al := fun i => i + 11) HL.out 1 HP.out
  case s13x1 =>
    obtain ⟨⟨bq, e4, hb⟩, e31⟩ := hK
    exact newG_put (i := 0) (cs0 := rowV (fun _ => (0, 0)) 12) (cs := rowV R 12) hg.1 _ _ _ rfl e4 hb e31 rfl rfl (n := 24) (by kernel_rfl) (rowV_len _ 12) (rowV_len _ 12) (rowV_one _ 12)
  case s14x1 =>
    obtain ⟨⟨bq, e4, hb⟩, e31⟩ := hK
    exact newG_put (i := 1) (cs0 := [.int .i64 0, .int .i64 0]) (cs := [.int .i64 (y1 : Int), .int .i64 (y2 : Int)]) hg.1 _ _ _ rfl e4 hb e31 rfl rfl (n := 2) (by kernel_rfl) rfl rfl (fun v hv => by simp at hv; rcases hv with rfl | rfl <;> rfl)
  case finx1 =>
    intro w1 g1 val hg hH
    simp only [HoldsG, IsG, IsS, Nat.zero_add, Nat.reduceAdd] at hH
    obtain ⟨h0, h1, h2, h3, h4, h5, h6, h7, h8, h9, h10, h11, h12, h13, h14, h15, _⟩ := hH
    simp only [List.take_succ_cons, List.take_zero, List.drop_succ_cons, List.drop_zero, putAll, h0, h1, h2, h3, h4, h5, h6, h7, h8, h9, h10, h15, Nat.zero_add, Nat.reduceAdd]
    obtain ⟨bp, e11, hb0⟩ := h11
    obtain ⟨bq, e12, hb⟩ := h12
    obtain ⟨b2, hb2, hf2⟩ := h13
    have eb : b2 = bp := by rw [hb0] at hb2; cases hb2; rfl
    rw [eb] at hf2
    have G3 := Lib.hid (G2.out.trans ((Gr.drew W1).trans hg.gr0))
    have BN : Blk w1 bp 78 (rowV R 12) := hf2
    obtain ⟨r0, r1⟩ := rowV_get R 12 0 (by decide)
    have n0 := BN.cell r0
    have n1 := BN.cell r1
    have HC3 := Lib.hid (HC1.out.gr ((Gr.drew W1).trans hg.gr0))
    simp only [e11, e12]
    clear hg hf2 hb hb2 BN h14 hb0 e11 e12 r0 r1
    go_simp
    go_wp2_with (first
      | (go_at_call 54; go_must (refine (HST.out _ HC3.out).mono ?_); rintro e w4 ⟨rfl, b4, k4⟩)
      | fail)
    go_ret
    exact ⟨rfl, b4, (G3.out.chg (S := fun j => j = gc)).trans k4 (fun j hj => .inl hj)⟩
set_option maxRecDepth 100000 in
set_option maxHeartbeats 2000000 in
theorem Next_front {w0 w : World} {S : Nat → Prop} {g gl gc : Nat} {p : PoolF} {L : Ls} {N : List Nd} {q : Nat × Nat} (h : Sl w0 w S g gl p L N) (hc : Blk w gc 101 (curV gl 0 q)) :
    Calls Try.prog 19 #[.pointer (some ⟨gc, 0, none⟩)] w fun e w' => e = .returned (.int .i64 (stE (firstN 0 N))) ∧ Blk w' gc 101 (curV gl (stS 2 (firstN 0 N)) (stQ q (firstN 0 N))) ∧ Chg (fun j => j = gc) w w' := by
  have HCK := Lib.hid (checkC_any w g gl gc L 0 q hc h.sk.blk)
  rw [h.fd, if_neg (by decide)] at HCK
  have HF := Lib.hid (First_sl h hc)
  obtain ⟨c0, c1, _, _⟩ := Blk.four hc
  generalize firstN 0 N = o at *
  clear hc h
  go_enter Try.func19, Try.ntmps19
  go_wp2_with (first
    | (go_at_call 53; go_must (refine HCK.out.mono ?_); rintro e w2 ⟨rfl, rfl⟩)
    | (go_at_call 29; go_must (refine HF.out.mono ?_); rintro e w2 ⟨rfl, b2, k2⟩)
    | fail)
  go_ret
  exact ⟨rfl, b2, k2⟩
theorem Next_back {w0 w : World} {S : Nat → Prop} {g gl gc : Nat} {p : PoolF} {L : Ls} {N : List Nd} {q : Nat × Nat} (h : Sl w0 w S g gl p L N) (hc : Blk w gc 101 (curV gl 2 q)) :
    Calls Try.prog 19 #[.pointer (some ⟨gc, 0, none⟩)] w fun e w' => e = .returned (.int .i64 15) ∧ w = w' := by
  have HCK := Lib.hid (checkC_any w g gl gc L 2 q hc h.sk.blk)
  rw [h.fd, if_neg (by decide)] at HCK
  obtain ⟨c0, c1, _, _⟩ := Blk.four hc
  clear hc h
  go_enter Try.func19, Try.ntmps19
  go_wp2_with (first
    | (go_at_call 53; go_must (refine HCK.out.mono ?_); rintro e w2 ⟨rfl, rfl⟩)
    | fail)
  go_ret
  exact ⟨rfl, rfl⟩
theorem Prev_front {w0 w : World} {S : Nat → Prop} {g gl gc : Nat} {p : PoolF} {L : Ls} {N : List Nd} {q : Nat × Nat} (h : Sl w0 w S g gl p L N) (hc : Blk w gc 101 (curV gl 0 q)) :
    Calls Try.prog 18 #[.pointer (some ⟨gc, 0, none⟩)] w fun e w' => e = .returned (.int .i64 15) ∧ w = w' := by
  have HCK := Lib.hid (checkC_any w g gl gc L 0 q hc h.sk.blk)
  rw [h.fd, if_neg (by decide)] at HCK
  obtain ⟨c0, c1, _, _⟩ := Blk.four hc
  clear hc h
  go_enter Try.func18, Try.ntmps18
  go_wp2_with (first
    | (go_at_call 53; go_must (refine HCK.out.mono ?_); rintro e w2 ⟨rfl, rfl⟩)
    | fail)
  go_ret
  exact ⟨rfl, rfl⟩
set_option maxRecDepth 100000 in
set_option maxHeartbeats 2000000 in
theorem Prev_back {w0 w : World} {S : Nat → Prop} {g gl gc : Nat} {p : PoolF} {L : Ls} {N : List Nd} {q : Nat × Nat} (h : Sl w0 w S g gl p L N) (hc : Blk w gc 101 (curV gl 2 q)) :
    Calls Try.prog 18 #[.pointer (some ⟨gc, 0, none⟩)] w fun e w' => e = .returned (.int .i64 (stE (lastN 0 N))) ∧ Blk w' gc 101 (curV gl (stS 0 (lastN 0 N)) (stQ q (lastN 0 N))) ∧ Chg (fun j => j = gc) w w' := by
  have HCK := Lib.hid (checkC_any w g gl gc L 2 q hc h.sk.blk)
  rw [h.fd, if_neg (by decide)] at HCK
  have HF := Lib.hid (Last_sl h hc)
  obtain ⟨c0, c1, _, _⟩ := Blk.four hc
  generalize lastN 0 N = o at *
  clear hc h
  go_enter Try.func18, Try.ntmps18
  go_wp2_with (first
    | (go_at_call 53; go_must (refine HCK.out.mono ?_); rintro e w2 ⟨rfl, rfl⟩)
    | (go_at_call 31; go_must (refine HF.out.mono ?_); rintro e w2 ⟨rfl, b2, k2⟩)
    | fail)
  go_ret
  exact ⟨rfl, b2, k2⟩
end Go.Proofs.Ytnafhjgfkofkbaa
