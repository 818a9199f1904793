/- Layer 1 (region): what a step does to a pool in memory; clear, copy and make of whole blocks. -/
import Derived.Test.YtfnimpgphagnfaaRegionMem
import Derived.Lib.SliceRun
namespace Go.Proofs.Ytfnimpgphagnfaa
set_option linter.unusedVariables false
set_option linter.unusedSimpArgs false
open Go.RowKit
theorem elemB : Elem Try.prog 23 5 (.int .u8 0) 1 1 := ⟨by kernel_rfl, by kernel_rfl, rfl, by decide⟩
theorem elemI : Elem Try.prog 22 3 (.int .i64 0) 1 8 := ⟨by kernel_rfl, by kernel_rfl, rfl, by decide⟩
theorem elemBool : Elem Try.prog 42 4 (.bool false) 1 1 := ⟨by kernel_rfl, by kernel_rfl, rfl, by decide⟩
theorem elemRow : Elem Try.prog 76 23 (.slice none 0 0) 1 24 := ⟨by kernel_rfl, by kernel_rfl, rfl, by decide⟩
section
variable {P : Program}
theorem Blk.setRow {w : World} {b : Nat} {e : TypeId} {cs : List Value} (h : Blk w b e cs) (ds : List Value) : Blk (w.setRow b ds.toArray) b e ds := setRow_heap w b cs.toArray ds.toArray e (0, 0) h
theorem grown_setRow (w : World) (b : Nat) (cs : Array Value) : w.grownBy (w.setRow b cs) (some b) := ⟨rfl, rfl, rfl, by simp, fun k _ hk => setRow_other w b k cs (fun e => hk (by rw [e]))⟩
theorem run_clear_blk {t e ty : TypeId} {z : Value} {bytes : Nat} (E : Elem P t e z 1 bytes) (hz : z.cells = #[z]) (h1 : z.oneCell' = true) (w : World) (b : Nat) (cs : List Value) (hb : Blk w b e cs) (c : Nat) (hn : 0 < cs.length) :
    (Builtin.clear_ #[t] ty #[.slice (some ⟨b, 0, none⟩) cs.length c]).run P w = .ok (.tuple #[]) (w.setRow b (List.replicate cs.length z).toArray) := by
  obtain ⟨ht, hinfo, _, _⟩ := E
  obtain ⟨i, hi, hz0, hsize, hby⟩ := info_parts hinfo
  have hv : ∀ w, (zeroValue e).run P w = .ok z w := fun w => by simp [zeroValue, typeInfo, hi, hz0]
  have hzc : (Builtin.zeroCells z.cells cs.length).toList = List.replicate cs.length z := by
    rw [hz]
    simp [Builtin.zeroCells]
    apply List.ext_getElem
    · simp
    · intro i h1 h2
      simp [Nat.mod_one]
  have hst := run_storeCells_un (P := P) b 0 e (0, 0) (List.replicate cs.length z) 0 cs.toArray w hb (by simp) (by simp) (fun v hv' => by rw [List.eq_of_mem_replicate hv']; exact h1)
  simp only [Nat.add_zero, Nat.zero_add, List.take_zero, List.nil_append, List.length_replicate, List.drop_length, List.append_nil] at hst
  obtain ⟨m, hm⟩ : ∃ m, cs.length = m + 1 := ⟨cs.length - 1, by omega⟩
  rw [hm] at hst hzc ⊢
  simp only [Builtin.clear_]
  simp [run_underlying ht, hv, hzc, hst]
theorem wp_clear {t e : TypeId} {z : Value} {bytes : Nat} (E : Elem P t e z 1 bytes) (hz : z.cells = #[z]) (h1 : z.oneCell' = true) {w : World} {ops : Array Oper} {rest : List Oper} {o : Oper} {a : Act} {Q : Exit → Act → World → Prop} (hgd : o.guard = none) (x : Operand)
    (ho : o.op = .call { callee := .builtin .clear, args := #[x], argTypes := #[t] }) {b c n : Nat} {cs : List Value} (hx : a.eval x = .slice (some ⟨b, 0, none⟩) n c) (hb : Blk w b e cs) (hn : cs.length = n) (h0 : 0 < n)
    (h : ∀ w', Blk w' b e (List.replicate n z) → w.grownBy w' (some b) → wpList P ops Q rest (a.put o.dst (.tuple #[])) w') : wpList P ops Q (o :: rest) a w := by
  subst hn
  refine wpList_plain hgd fun K hK => ?_
  have hr := run_clear_blk (ty := o.type) E hz h1 w b cs hb c h0
  unfold Oper.wp execOp
  simp only [ho, resolve, invoke, builtin, Sem.run_bind, Sem.run_pure, Result.andThen_ok, List.map_toArray, List.map_cons, List.map_nil, hx, hr]
  exact hK _ _ (h _ (hb.setRow _) (grown_setRow _ _ _))
theorem wp_copy {dT sT e : TypeId} {z : Value} {bytes : Nat} (E : Elem P dT e z 1 bytes) {w : World} {ops : Array Oper} {rest : List Oper} {o : Oper} {a : Act} {Q : Exit → Act → World → Prop} (hgd : o.guard = none) (x y : Operand)
    (ho : o.op = .call { callee := .builtin .copy, args := #[x, y], argTypes := #[dT, sT] }) {b off dl dc sl sc : Nat} {sa xa : Option Addr} {cur src : List Value} (hx : a.eval x = .slice xa dl dc) (hxa : 0 < sl → xa = some ⟨b, off, none⟩) (hy : a.eval y = .slice sa sl sc)
    (hb : Blk w b e cur) (hs : Row w sa src) (hsl : src.length = sl) (hle : sl ≤ dl) (hfit : off + sl ≤ cur.length) (h1 : ∀ v ∈ src, v.oneCell' = true)
    (h : ∀ w', Blk w' b e (cur.take off ++ src ++ cur.drop (off + sl)) → w.grownBy w' (some b) → wpList P ops Q rest (a.put o.dst (goInt sl)) w') : wpList P ops Q (o :: rest) a w := by
  subst hsl
  refine wpList_plain hgd fun K hK => ?_
  obtain ⟨ht, hinfo, _, _⟩ := E
  obtain ⟨i, hi, _, hsize, _⟩ := info_parts hinfo
  have hsz : (P.info? e).map (·.size) = some 1 := by rw [hi]; simp [hsize]
  unfold Oper.wp execOp
  by_cases h0 : src.length = 0
  · have hr := run_copy_none (P := P) w dT sT o.type e xa sa dl dc src.length sc ht hsz (by rw [h0]; exact Nat.zero_min _)
    simp only [ho, resolve, invoke, builtin, Sem.run_bind, Sem.run_pure, Result.andThen_ok, List.map_toArray, List.map_cons, List.map_nil, hx, hy, hr]
    have := h w (by
      have : src = [] := List.eq_nil_of_length_eq_zero h0
      subst this
      simpa using hb) ((Gr.refl w).far)
    rw [h0] at this
    exact hK _ _ this
  · obtain rfl := hxa (by omega)
    cases sa with
    | none =>
      exfalso
      cases src with
      | nil => exact h0 rfl
      | cons v r => obtain ⟨_, _, hh, _⟩ := hs 0 v rfl; cases hh
    | some ad =>
      have hr := run_copy_row (P := P) w dT sT o.type e b off dl dc ad src.length sc cur.toArray e src ht hsz hb (by exact (Nat.min_eq_left hle).symm) (fun j v hj => by
        obtain ⟨bb, oo, hh, hc⟩ := hs j v hj
        cases hh
        have hadd : (⟨bb, oo, none⟩ : Addr).add j = ⟨bb, oo + j, none⟩ := by unfold Addr.add; split <;> simp_all
        rw [hadd]; exact hc) (by simpa using hfit) h1
      simp only [ho, resolve, invoke, builtin, Sem.run_bind, Sem.run_pure, Result.andThen_ok, List.map_toArray, List.map_cons, List.map_nil, hx, hy, hr]
      exact hK _ _ (h _ (hb.setRow _) (grown_setRow _ _ _))
end
section
variable {w w' : World} {S : Nat → Prop} {g : Nat} {p : PoolF} {ads adt : Option Addr} {cs ct : Nat} {A : Nat → Option Addr} {C bd : Nat → Nat}
def setTaken (p : PoolF) (s : Nat) (b : Bool) : PoolF := { p with taken := p.taken.set s b }
def setBytes (p : PoolF) (s : Nat) (b : List UInt8) : PoolF := { p with bytes := p.bytes.set s b }
theorem map_set_bool (l : List Bool) (s : Nat) (b : Bool) : (l.set s b).map Value.bool = (l.map Value.bool).set s (.bool b) := by rw [List.map_set]
theorem bytesAt_set (p : PoolF) (s i : Nat) (b : List UInt8) (hs : s < p.bytes.length) : bytesAt (setBytes p s b) i = if s = i then b else bytesAt p i := by
  unfold bytesAt setBytes
  simp only [List.getD_eq_getElem?_getD, List.getElem?_set]
  by_cases h : s = i
  · subst h; simp [hs]
  · simp [h]
/-- a slab is taken, or let go -/
theorem PX.put_taken (h : PX w S g p ads cs adt ct A C bd) {bt s : Nat} (ht : adt = some ⟨bt, 0, none⟩) (hs : s < p.taken.length) (b : Bool) :
    PX (w.setCell ⟨bt, s, none⟩ (.bool b)) S g (setTaken p s b) ads cs adt ct A C bd := by
  have k := grown_set w bt s (.bool b)
  have hne := h.blk.owns_ne h.tak (by decide) _ ht
  simp only at hne
  refine ⟨?_, h.row.grown k (fun x hx e => (h.row.ne h.tak (by decide)) x _ hx ht (Option.some.inj e)), ?_, fun i hi => (h.slab i hi).grown k (fun e => (h.slab i hi).owns_ne h.tak (by decide) _ ht (Option.some.inj e).symm), fun i hi => (h.land i hi).grown k (fun x hx e => (h.land i hi).ne h.tak (by decide) x _ hx ht (Option.some.inj e)),
    h.inj, h.sep, h.sg, h.srow, h.stak, h.sslab, h.sland, fun j hj => Nat.lt_of_lt_of_le (h.lt j hj) k.size⟩
  · have e : poolV (setTaken p s b) ads cs adt ct A C = poolV p ads cs adt ct A C := by
      unfold poolV setTaken
      simp only [List.length_set]
      rfl
    rw [e]
    exact h.blk.grown k (fun e => hne (Option.some.inj e).symm)
  · have := h.tak.store ht hs (.bool b)
    rw [← map_set_bool] at this
    show Owns _ 0 _ 1 adt ct (p.taken.set s b).length ((p.taken.set s b).map .bool)
    rw [List.length_set]
    exact this
/-- a slab's bytes are others -/
theorem PX.put_bytes (h : PX w S g p ads cs adt ct A C bd) {s : Nat} (hs : s < p.bytes.length) (l : List UInt8) (hb : Blk w' (bd s) 5 (bv l)) (k : w.grownBy w' (some (bd s))) :
    PX w' S g (setBytes p s l) ads cs adt ct A C bd := by
  have e : poolV (setBytes p s l) ads cs adt ct A C = poolV p ads cs adt ct A C := by
    unfold poolV setBytes
    simp only [List.length_set]
    rfl
  have hl : (setBytes p s l).bytes.length = p.bytes.length := List.length_set
  refine ⟨?_, ?_, h.tak.grown k (fun x hx e => (h.slab s hs).owns_ne h.tak (by decide) x hx (Option.some.inj e)), fun i hi => ?_, fun i hi => (h.land i hi).grown k (fun x hx e => (h.slab s hs).owns_ne (h.land i hi) (by decide) x hx (Option.some.inj e)),
    fun i j hi hj => h.inj i j (by omega) (by omega), h.sep, h.sg, h.srow, h.stak, fun i hi => h.sslab i (by omega), h.sland, fun j hj => Nat.lt_of_lt_of_le (h.lt j hj) k.size⟩
  · rw [e]
    exact h.blk.grown k (fun e => (h.slab s hs).ne h.blk (by decide) (Option.some.inj e).symm)
  · rw [hl]
    exact h.row.grown k (fun x hx e => (h.slab s hs).owns_ne h.row (by decide) x hx (Option.some.inj e))
  · rw [hl] at hi
    rw [bytesAt_set p s i l hs]
    by_cases e : s = i
    · subst e; rw [if_pos rfl]; exact hb
    · rw [if_neg e]
      exact (h.slab i hi).grown k (fun x => e (h.inj i s hi hs (Option.some.inj x)).symm)
theorem poolV_set1 (hl : p.lands.length = 256) {i k : Nat} (hi : i < 256) (hk : k < 4) (v : Value) (l : Land) (ad : Option Addr) (cap : Nat) (hv : (landV (landAt p i) (A i) (C i)).set k v = landV l ad cap) :
    (poolV p ads cs adt ct A C).set (3 + i * 4 + k) v = poolV (setLand p i l) ads cs adt ct (upd A i ad) (upd C i cap) := by
  rw [poolV_setLand hl hi]
  unfold poolV
  rw [head_set rfl (fun j => rfl) hi hk]
  congr 1
  refine flat_congr _ fun j hj => ?_
  by_cases e : j = i
  · subst e; rw [if_pos rfl, if_pos rfl]; exact hv
  · rw [if_neg e, if_neg e]
theorem upd_id {α : Type} (A : Nat → α) (i : Nat) : upd A i (A i) = A := by
  funext j
  by_cases h : j = i
  · subst h; rw [upd_same]
  · rw [upd_other _ _ h]
/-- how far a region is handed out -/
theorem PX.put_fill (h : PX w S g p ads cs adt ct A C bd) (hl : p.lands.length = 256) {i : Nat} (hi : i < 256) (f : Nat) :
    PX (w.setCell ⟨g, 3 + i * 4 + 3, none⟩ (.int .i64 (f : Int))) S g (fillAt p i f) ads cs adt ct A C bd := by
  have k := grown_set w g (3 + i * 4 + 3) (.int .i64 (f : Int))
  have hb := h.blk.set_ (3 + i * 4 + 3) (.int .i64 (f : Int))
  have e := poolV_set1 (ads := ads) (cs := cs) (adt := adt) (ct := ct) (A := A) (C := C) hl hi (k := 3) (by decide) (.int .i64 (f : Int)) ⟨(landAt p i).there, (landAt p i).gen, (landAt p i).slabs, f⟩ (A i) (C i) rfl
  have := h.put_land hl hi ⟨(landAt p i).there, (landAt p i).gen, (landAt p i).slabs, f⟩ (A i) (C i) (e ▸ hb) (fun j hj hne => k.block j (h.lt j hj) (fun e => hne (Option.some.inj e))) k.size
    ((h.land i hi).grown k (fun x hx e => h.blk.owns_ne (h.land i hi) (by decide) x hx (Option.some.inj e))) (.inr rfl)
  rw [upd_id, upd_id] at this
  exact this
/-- a region has a slab more -/
theorem PX.put_slab (h : PX w S g p ads cs adt ct A C bd) (hl : p.lands.length = 256) {i s : Nat} (hi : i < 256) {w4 : World} {ad : Option Addr} {cap : Nat} (k : w.grownBy w4 ((A i).map (·.block)))
    (o : Owns w4 0 3 1 ad cap ((landAt p i).slabs.length + 1) (iv ((landAt p i).slabs ++ [s]))) (f : ∀ a, ad = some a → A i = some a ∨ w.heap.size ≤ a.block) :
    ∃ S', Moved S g (setLand p i ⟨(landAt p i).there, (landAt p i).gen, (landAt p i).slabs ++ [s], (landAt p i).fill⟩) w (w4.setCell ⟨g, 3 + i * 4 + 2, none⟩ (.slice ad ((landAt p i).slabs.length + 1) cap)) S' := by
  have hAg : ∀ x, A i = some x → x.block ≠ g := h.blk.owns_ne (h.land i hi) (by decide)
  have hgl := h.lt g h.sg
  have hne : ∀ x, ad = some x → x.block ≠ g := fun x hx e => by
    rcases f x hx with h1 | h1
    · exact hAg x h1 e
    · omega
  have hk4 : ∀ j, j < w.heap.size → (∀ x, A i = some x → x.block ≠ j) → w4.heap[j]? = w.heap[j]? := fun j hj hx => k.block j hj (fun e => by
    cases hA : A i with
    | none => rw [hA] at e; cases e
    | some x => rw [hA] at e; exact hx x hA (Option.some.inj e).symm)
  have hb4 : Blk w4 g 81 (poolV p ads cs adt ct A C) := (hk4 g hgl hAg).trans h.blk
  have k5 := grown_set w4 g (3 + i * 4 + 2) (.slice ad ((landAt p i).slabs.length + 1) cap)
  have hb5 := hb4.set_ (3 + i * 4 + 2) (.slice ad ((landAt p i).slabs.length + 1) cap)
  have hlen : (landAt p i).slabs.length + 1 = ((landAt p i).slabs ++ [s]).length := by simp
  rw [poolV_set1 (ads := ads) (cs := cs) (adt := adt) (ct := ct) (A := A) (C := C) hl hi (k := 2) (by decide) (.slice ad ((landAt p i).slabs.length + 1) cap) ⟨(landAt p i).there, (landAt p i).gen, (landAt p i).slabs ++ [s], (landAt p i).fill⟩ ad cap (by rw [hlen]; rfl)] at hb5
  have hall : ∀ j, j < w.heap.size → j ≠ g → (∀ x, A i = some x → x.block ≠ j) → (w4.setCell ⟨g, 3 + i * 4 + 2, none⟩ (.slice ad ((landAt p i).slabs.length + 1) cap)).heap[j]? = w.heap[j]? := fun j hj hjg hx => (k5.block j (Nat.lt_of_lt_of_le hj k.size) (fun e => hjg (Option.some.inj e))).trans (hk4 j hj hx)
  have ha : ∀ j, landAt (setLand p i ⟨(landAt p i).there, (landAt p i).gen, (landAt p i).slabs ++ [s], (landAt p i).fill⟩) j = if i = j then ⟨(landAt p i).there, (landAt p i).gen, (landAt p i).slabs ++ [s], (landAt p i).fill⟩ else landAt p j := fun j => landAt_set p i j _ (by omega)
  refine ⟨fun j => S j ∨ (w.heap.size ≤ j ∧ j < w4.heap.size), ⟨?_, ?_, ?_⟩⟩
  · refine ⟨k5.os.trans k.os, k5.tape.trans k.tape, k5.output.trans k.output, Nat.le_trans k.size k5.size, fun j hj hn => hall j hj (fun e => hn (e ▸ h.sg)) (fun x hx e => hn (e ▸ h.sland i x hi hx))⟩
  · intro j hj
    rcases hj with h1 | h1
    · exact .inl h1
    · exact .inr h1.1
  refine ⟨ads, cs, adt, ct, upd A i ad, upd C i cap, bd, hb5, h.row.kept (fun b hb => hall b (h.lt _ (h.srow _ hb)) (h.blk.owns_ne h.row (by decide) _ hb) (fun x hx => (h.land i hi).ne h.row (by decide) x _ hx hb)), h.tak.kept (fun b hb => hall b (h.lt _ (h.stak _ hb)) (h.blk.owns_ne h.tak (by decide) _ hb) (fun x hx => (h.land i hi).ne h.tak (by decide) x _ hx hb)),
    fun j hj => (hall _ (h.lt _ (h.sslab j hj)) ((h.slab j hj).ne h.blk (by decide)) (fun x hx => (h.slab j hj).owns_ne (h.land i hi) (by decide) x hx)).trans (h.slab j hj), fun j hj => ?_, h.inj, fun a b x y ha3 hb3 hx hy hxy => ?_, .inl h.sg, fun x hx => .inl (h.srow x hx), fun x hx => .inl (h.stak x hx), fun j hj => .inl (h.sslab j hj), fun j x hj hx => ?_, fun j hj => ?_⟩
  · rw [ha]
    by_cases e : j = i
    · subst e
      rw [if_pos rfl, upd_same, upd_same]
      have := o.grown k5 (fun x hx e => hne x hx (Option.some.inj e))
      rw [hlen] at this
      simpa using this
    · rw [if_neg (fun x => e x.symm), upd_other _ _ e, upd_other _ _ e]
      exact (h.land j hj).kept (fun b hb => hall b (h.lt _ (h.sland j _ hj hb)) (h.blk.owns_ne (h.land j hj) (by decide) _ hb) (fun x hx e2 => e (h.sep i j x _ hi hj hx hb e2).symm))
  · by_cases ea : a = i
    · by_cases eb : b = i
      · omega
      · subst ea
        rw [upd_same] at hx
        rw [upd_other _ _ eb] at hy
        rcases f x hx with h1 | h1
        · exact h.sep a b x y ha3 hb3 h1 hy hxy
        · have := h.lt _ (h.sland b y hb3 hy); omega
    · rw [upd_other _ _ ea] at hx
      by_cases eb : b = i
      · subst eb
        rw [upd_same] at hy
        rcases f y hy with h1 | h1
        · exact h.sep a b x y ha3 hb3 hx h1 hxy
        · have := h.lt _ (h.sland a x ha3 hx); omega
      · rw [upd_other _ _ eb] at hy
        exact h.sep a b x y ha3 hb3 hx hy hxy
  · by_cases e : j = i
    · subst e
      rw [upd_same] at hx
      rcases f x hx with h1 | h1
      · exact .inl (h.sland j x hj h1)
      · exact .inr ⟨h1, (o.lt x hx).2⟩
    · rw [upd_other _ _ e] at hx
      exact .inl (h.sland j x hj hx)
  · rcases hj with h1 | h1
    · exact Nat.lt_of_lt_of_le (h.lt j h1) (Nat.le_trans k.size k5.size)
    · exact Nat.lt_of_lt_of_le h1.2 k5.size
end
/-- a slice of one new element of one cell -/
theorem src_cell {P : Program} {u e' : TypeId} (w : World) (v : Value) (e : TypeId) (hv : v.oneCell' = true) (hu : P.underlying u = some (.slice e')) (gb : Nat) (hgb : gb = w.heap.size) : Src P u (w.alloc (.cells #[v] e)) 1 (.slice (some ⟨gb, 0, none⟩) 1 1) 1 [v] := by
  subst hgb
  refine ⟨rfl, fun x hx => by rw [List.mem_singleton] at hx; rw [hx]; exact hv, .inl ⟨_, _, e', rfl, ?_, hu⟩⟩
  exact Row.alloc w #[v] e (0, 0) [v] rfl
theorem Moved.finish {w W3 W5 : World} {S S2 : Nat → Prop} {g : Nat} {p2 : PoolF} {ads adt : Option Addr} {cs ct : Nat} {A : Nat → Option Addr} {C bd : Nat → Nat} (h : Moved S g p2 w W3 S2) (hx : PX W3 S2 g p2 ads cs adt ct A C bd) (hl : p2.lands.length = 256) {i : Nat} (hi : i < 256) (f : Nat)
    {gh : Nat} (hg : ¬ S2 gh) (hw : w.heap.size ≤ gh) (k : (W3.setCell ⟨g, 3 + i * 4 + 3, none⟩ (.int .i64 (f : Int))).grownBy W5 (some gh)) : Moved S g (fillAt p2 i f) w W5 S2 := by
  have k1 := grown_set W3 g (3 + i * 4 + 3) (.int .i64 (f : Int))
  have hc := h.chg.trans (Chg.grown k1 hx.sg) h.sub
  have hp := hx.put_fill hl hi f
  refine ⟨⟨k.os.trans hc.os, k.tape.trans hc.tape, k.output.trans hc.output, Nat.le_trans hc.size k.size, fun j hj hn => (k.block j (Nat.lt_of_lt_of_le hj hc.size) (fun e => by have := Option.some.inj e; omega)).trans (hc.block j hj hn)⟩, h.sub, ads, cs, adt, ct, A, C, bd, hp.same (fun j hj => k.block j (hp.lt j hj) (fun e => hg ((Option.some.inj e) ▸ hj))) k.size⟩
def hdv (h : Hd) : Value := .agg #[.int .i64 h.region, .int .i64 h.gen, .int .i64 h.off, .int .i64 h.len]
theorem Blk.four {w : World} {g : Nat} {t : TypeId} {a b c d : Value} (h : Blk w g t [a, b, c, d]) : w.cell? ⟨g, 0, none⟩ = some a ∧ w.cell? ⟨g, 1, none⟩ = some b ∧ w.cell? ⟨g, 2, none⟩ = some c ∧ w.cell? ⟨g, 3, none⟩ = some d ∧ w.frozen? ⟨g, 0, none⟩ = false ∧ w.frozen? ⟨g, 1, none⟩ = false ∧ w.frozen? ⟨g, 2, none⟩ = false ∧ w.frozen? ⟨g, 3, none⟩ = false :=
  ⟨h.cell rfl, h.cell rfl, h.cell rfl, h.cell rfl, h.frozen _, h.frozen _, h.frozen _, h.frozen _⟩
theorem iv_get (l : List Nat) (i s : Nat) (h : l[i]? = some s) : (iv l)[i]? = some (.int .i64 (s : Int)) := by simp [iv, h]
theorem slabV_get {bd : Nat → Nat} {size n i : Nat} (h : i < n) : (slabV bd size n)[i]? = some (.slice (some ⟨bd i, 0, none⟩) size size) := by simp [slabV, h]
end Go.Proofs.Ytfnimpgphagnfaa
