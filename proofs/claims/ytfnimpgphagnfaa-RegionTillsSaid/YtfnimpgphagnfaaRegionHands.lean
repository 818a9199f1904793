/- Layer 1 (region): rows of handles in memory; what a law keeps beside its pool. -/
import Derived.Test.YtfnimpgphagnfaaRegionMany
namespace Go.Proofs.Ytfnimpgphagnfaa
set_option linter.unusedVariables false
set_option linter.unusedSimpArgs false
open Go.RowKit
def hc (x : Hd) : List Value := [.int .i64 x.region, .int .i64 x.gen, .int .i64 x.off, .int .i64 x.len]
theorem hc_len (x : Hd) : (hc x).length = 4 := rfl
theorem hc_one (x : Hd) : ∀ v ∈ hc x, v.oneCell' = true := by
  intro v hv
  simp only [hc, List.mem_cons, List.not_mem_nil, or_false] at hv
  rcases hv with h | h | h | h <;> rw [h] <;> rfl
def hv (D : List Hd) : List Value := D.flatMap hc
theorem hv_append (D E : List Hd) : hv (D ++ E) = hv D ++ hv E := by simp [hv]
theorem hv_len : ∀ D : List Hd, (hv D).length = D.length * 4
  | [] => rfl
  | x :: D => by
    have := hv_len D
    unfold hv at this ⊢
    rw [List.flatMap_cons, List.length_append, hc_len, this, List.length_cons]; omega
theorem hv_get : ∀ (D : List Hd) (j c : Nat) (h : j < D.length), c < 4 → (hv D)[j * 4 + c]? = (hc D[j])[c]?
  | [], _, _, h, _ => by simp at h
  | x :: D, 0, c, _, hc' => by
    unfold hv
    rw [List.flatMap_cons, List.getElem?_append_left (by rw [hc_len]; omega)]
    simp
  | x :: D, j + 1, c, h, hc' => by
    have := hv_get D j c (by simpa using h) hc'
    unfold hv at this ⊢
    rw [List.flatMap_cons, List.getElem?_append_right (by rw [hc_len]; omega), hc_len, show (j + 1) * 4 + c - 4 = j * 4 + c by omega, this]
    simp
theorem elemH : Elem Try.prog 29 33 (.agg #[.int .i64 0, .int .i64 0, .int .i64 0, .int .i64 0]) 4 32 := ⟨by kernel_rfl, by kernel_rfl, rfl, by decide⟩
/-- the cells of a handle in a row of such -/
theorem Owns.hand {w : World} {base : Nat} {ad : Option Addr} {cap n : Nat} {D : List Hd} (h : Owns w base 33 4 ad cap n (hv D)) {j : Nat} (hj : j < D.length) :
    ∃ g, ad = some ⟨g, 0, none⟩ ∧ w.cell? ⟨g, j * 4, none⟩ = some (.int .i64 D[j].region) ∧ w.cell? ⟨g, j * 4 + 1, none⟩ = some (.int .i64 D[j].gen) ∧ w.cell? ⟨g, j * 4 + 2, none⟩ = some (.int .i64 D[j].off) ∧ w.cell? ⟨g, j * 4 + 3, none⟩ = some (.int .i64 D[j].len) := by
  obtain ⟨g, e, _, c0⟩ := h.at ((hv_get D j 0 hj (by decide)).trans rfl)
  obtain ⟨g1, e1, _, c1⟩ := h.at ((hv_get D j 1 hj (by decide)).trans rfl)
  obtain ⟨g2, e2, _, c2⟩ := h.at ((hv_get D j 2 hj (by decide)).trans rfl)
  obtain ⟨g3, e3, _, c3⟩ := h.at ((hv_get D j 3 hj (by decide)).trans rfl)
  rw [e] at e1 e2 e3
  cases e1; cases e2; cases e3
  exact ⟨g, e, c0, c1, c2, c3⟩
/-- a slice of one new handle -/
theorem src_hand {u : TypeId} (w : World) (x : Hd) (e : TypeId) {e' : TypeId} (hu : Try.prog.underlying u = some (.slice e')) (gb : Nat) (hgb : gb = w.heap.size) : Src Try.prog u (w.alloc (.cells #[.int .i64 x.region, .int .i64 x.gen, .int .i64 x.off, .int .i64 x.len] e)) 4 (.slice (some ⟨gb, 0, none⟩) 1 1) 1 (hc x) := by
  subst hgb
  refine ⟨rfl, hc_one x, .inl ⟨_, _, e', rfl, ?_, hu⟩⟩
  exact Row.alloc w #[.int .i64 x.region, .int .i64 x.gen, .int .i64 x.off, .int .i64 x.len] e (0, 0) (hc x) rfl
/-- handles that may be written, by number -/
def liveV (L : Nat → Hd) (n : Nat) : List Value := flat (fun k => hc (L k)) n
theorem liveV_get (L : Nat → Hd) {n k c : Nat} (h : k < n) (hc' : c < 4) : (liveV L n)[k * 4 + c]? = (hc (L k))[c]? := flat_get (fun i => hc_len _) n k c h hc'
theorem Blk.hand {w : World} {g n : Nat} {L : Nat → Hd} (h : Blk w g 33 (liveV L n)) {k : Nat} (hk : k < n) :
    w.cell? ⟨g, k * 4, none⟩ = some (.int .i64 (L k).region) ∧ w.cell? ⟨g, k * 4 + 1, none⟩ = some (.int .i64 (L k).gen) ∧ w.cell? ⟨g, k * 4 + 2, none⟩ = some (.int .i64 (L k).off) ∧ w.cell? ⟨g, k * 4 + 3, none⟩ = some (.int .i64 (L k).len) ∧ ∀ c, w.frozen? ⟨g, c, none⟩ = false :=
  ⟨h.cell ((liveV_get L (c := 0) hk (by decide)).trans rfl), h.cell ((liveV_get L (c := 1) hk (by decide)).trans rfl), h.cell ((liveV_get L (c := 2) hk (by decide)).trans rfl), h.cell ((liveV_get L (c := 3) hk (by decide)).trans rfl), h.frozen⟩
theorem liveV_set4 (L : Nat → Hd) {n k : Nat} (hk : k < n) (x : Hd) :
    ((((liveV L n).set (k * 4) (.int .i64 x.region)).set (k * 4 + 1) (.int .i64 x.gen)).set (k * 4 + 2) (.int .i64 x.off)).set (k * 4 + 3) (.int .i64 x.len) = liveV (upd L k x) n := by
  unfold liveV
  have e0 := flat_set (F := fun k => hc (L k)) (fun i => hc_len _) n k 0 (.int .i64 x.region) hk (by decide)
  rw [Nat.add_zero] at e0
  rw [e0, flat_set (fun j => by split <;> rfl) n k _ _ hk (by decide), flat_set (fun j => by repeat (first | rfl | split)) n k _ _ hk (by decide), flat_set (fun j => by repeat (first | rfl | split)) n k _ _ hk (by decide)]
  refine flat_congr _ fun j hj => ?_
  by_cases e : j = k
  · subst e; simp only [if_true, upd_same]; rfl
  · simp only [e, if_false, upd_other _ _ e]
theorem Blk.put_hand {w : World} {g n : Nat} {L : Nat → Hd} (h : Blk w g 33 (liveV L n)) {k : Nat} (hk : k < n) (x : Hd) :
    Blk ((((w.setCell ⟨g, k * 4, none⟩ (.int .i64 x.region)).setCell ⟨g, k * 4 + 1, none⟩ (.int .i64 x.gen)).setCell ⟨g, k * 4 + 2, none⟩ (.int .i64 x.off)).setCell ⟨g, k * 4 + 3, none⟩ (.int .i64 x.len)) g 33 (liveV (upd L k x) n) := by
  rw [← liveV_set4 L hk x]
  exact (((h.set_ (k * 4) _).set_ (k * 4 + 1) _).set_ (k * 4 + 2) _).set_ (k * 4 + 3) _
theorem grown_set4b (w : World) (g o : Nat) (a b c d : Value) : w.grownBy ((((w.setCell ⟨g, o, none⟩ a).setCell ⟨g, o + 1, none⟩ b).setCell ⟨g, o + 2, none⟩ c).setCell ⟨g, o + 3, none⟩ d) (some g) :=
  grown_trans (grown_trans (grown_trans (grown_set _ _ _ _) (grown_set _ _ _ _)) (grown_set _ _ _ _)) (grown_set _ _ _ _)
theorem Pl.grown {w0 w w' : World} {S : Nat → Prop} {g : Nat} {p : PoolF} (h : Pl w0 w S g p) {b : Nat} (hO : ¬ S b) (hb : w0.heap.size ≤ b) (k : w.grownBy w' (some b)) : Pl w0 w' S g p :=
  ⟨Gr.of_far h.gr k hb, h.pool.chg (Chg.grown (S := fun j => j = b) k rfl) (fun j hj e => hO (e ▸ hj)), h.ok, h.base⟩
theorem Pl.grownO {w0 w w' : World} {S : Nat → Prop} {g : Nat} {p : PoolF} (h : Pl w0 w S g p) {o : Option Nat} (hO : ∀ b, o = some b → ¬ S b ∧ w0.heap.size ≤ b) (k : w.grownBy w' o) : Pl w0 w' S g p := by
  cases o with
  | none => exact h.more ⟨k.os, k.tape, k.output, k.size, fun j hj => k.block j hj (fun e => by cases e)⟩
  | some b => exact h.grown (hO b rfl).1 (hO b rfl).2 k
theorem Out.grown {S : Nat → Prop} {w w' : World} {b : Nat} (h : Out S w b) (hs : w.heap.size ≤ w'.heap.size) : Out S w' b := ⟨h.no, Nat.lt_of_lt_of_le h.lt hs⟩
/-- make of whole elements, of any size -/
theorem wp_makeB {P : Program} {t e : TypeId} {z : Value} {size bytes : Nat} (E : Elem P t e z size bytes) {w : World} {ops : Array Oper} {rest : List Oper} {o : Oper} {a : Act} {Q : Exit → Act → World → Prop} (hgd : o.guard = none) (l c : Operand)
    (ho : o.op = .makeSlice t l c) {kl kc : IntKind} {L C : Int} (n : Nat) (hl : a.eval l = .int kl L) (hc : a.eval c = .int kc C) (hL : L = (n : Int)) (hC : C = (n : Int)) (h63 : n ≤ maxLen) (hbytes : bytes * n ≤ 281474976710656)
    (h : ∀ w', Blk w' w.heap.size e (madeCells z.cells (n * size)).toList → Gr w w' → w'.heap.size = w.heap.size + 1 → wpList P ops Q rest (a.put o.dst (.slice (some ⟨w.heap.size, 0, none⟩) n n)) w') :
    wpList P ops Q (o :: rest) a w := by
  refine wpList_plain hgd fun K hK => ?_
  obtain ⟨ht, hinfo, hzs, hpos⟩ := E
  obtain ⟨i, hi, hz, hsize, hby⟩ := info_parts hinfo
  subst hL
  subst hC
  have h63' : (n : Int) ≤ 9223372036854775807 := by simp [maxLen] at h63; omega
  have hb' : (i.bytes : Int) * (n : Int) ≤ 281474976710656 := by
    have h : ((i.bytes * n : Nat) : Int) ≤ 281474976710656 := by rw [hby]; omega
    rwa [Int.natCast_mul] at h
  have hr := run_make (P := P) w t e i z ht hi hz kl kc n n (by omega) (by omega) hb' h63'
  simp only [Int.toNat_natCast] at hr
  unfold Oper.wp
  simp only [execOp, ho, hl, hc, Sem.run_bind, Sem.run_pure, hr, Result.andThen_ok]
  refine hK _ _ (h _ ?_ (Gr.alloc _ _) (by simp))
  rw [hsize]
  exact Blk.new w e _
theorem made_hands : (madeCells (Value.agg #[.int .i64 0, .int .i64 0, .int .i64 0, .int .i64 0]).cells (4 * 4)).toList = liveV (fun _ => noHd) 4 := by kernel_rfl
/-- Alloc in a region that has no slab yet -/
theorem alloc_fresh {p : PoolF} (hp : PoolOk p) {i s : Nat} {n a : Int} (hi : i < 256) (hth : (landAt p i).there = true) (hsl : (landAt p i).slabs = []) (h1 : 1 ≤ n) (h2 : n ≤ (p.size : Int)) (ha : alignOk a = true) (hid : idleF p = some s) :
    ∃ p', allocF p (i : Int) n a = (⟨(i : Int), ((landAt p i).gen : Int), 0, n⟩, 0, p') ∧ landAt p' i = ⟨true, (landAt p i).gen, [s], n.toNat⟩ ∧ (∀ j, j ≠ i → landAt p' j = landAt p j) ∧ p'.size = p.size ∧ p'.bytes.length = p.bytes.length := by
  refine ⟨fillAt (growAt p i s) i ((landAt p i).slabs.length * p.size + n.toNat), ?_, ?_, fun j hj => ?_, rfl, List.length_set⟩
  · unfold allocF
    rw [landF_of hi hth]
    simp only
    rw [if_neg (by rw [ha]; simp; omega), if_pos (.inl hsl), hid, hsl]
    simp
  · rw [landAt_fill (grow_lands hp i s) hi, if_pos rfl, landAt_grow hp hi, if_pos rfl, hsl, hth]
    simp
  · rw [landAt_fill (grow_lands hp i s) hi, if_neg (fun e => hj e.symm), landAt_grow hp hi, if_neg (fun e => hj e.symm)]
end Go.Proofs.Ytfnimpgphagnfaa
