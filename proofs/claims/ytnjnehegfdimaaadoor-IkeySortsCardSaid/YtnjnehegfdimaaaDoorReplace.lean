/- The library's bytes.Count, Index at one byte; ReplaceAll of a nought by two bytes. -/
import Derived.Test.YtnjnehegfdimaaaDoorIkeySortM
import Derived.Test.YtnjnehegfdimaaaDoorFresh
import Derived.Test.YtnjnehegfdimaaaDoorAnyS
import Derived.Shelf.Bytes.SlIndexAt
import Derived.Shelf.Bytes.SlCountOne
namespace Go.Proofs.YtnjnehegfdimaaaDoor
set_option linter.unusedVariables false
set_option linter.unusedSimpArgs false
open Go.RowKit Ikey Varint
/-- bytes as integers -/
def xv (l : List UInt8) : List Int := l.map fun x => (x.toNat : Int)
theorem xv_len (l : List UInt8) : (xv l).length = l.length := by simp [xv]
theorem bytesOf_xv (l : List UInt8) : Lib.bytesOf (xv l) = l := by
  unfold Lib.bytesOf xv
  rw [List.map_map]
  conv => rhs; rw [← List.map_id l]
  apply List.map_congr_left
  intro x _
  apply UInt8.toNat_inj.1
  simp
theorem cells_xv {w : World} {b off : Nat} {l : List UInt8} (h : Bytes w (some ⟨b, off, none⟩) l) : ∀ i, i < l.length → w.cell? ((⟨b, off, none⟩ : Addr).add i) = some (.int .u8 ((xv l).getD i 0)) := fun i hi => by
  obtain ⟨b', off', e, hc⟩ := h i hi
  cases e
  have hadd : (⟨b, off, none⟩ : Addr).add i = ⟨b, off + i, none⟩ := by unfold Addr.add; split <;> simp_all
  rw [hadd, hc]
  unfold xv
  simp [List.getD_eq_getElem?_getD, hi]
set_option maxRecDepth 100000 in
set_option maxHeartbeats 1000000 in
theorem Count_one (b off cap b2 o2 c2 : Nat) (l : List UInt8) (x : UInt8) (w : World) (hb : Bytes w (some ⟨b, off, none⟩) l) (hx : w.cell? ⟨b2, o2, none⟩ = some (.int .u8 (x.toNat : Int))) :
    Calls Tryd.prog 25 #[.slice (some ⟨b, off, none⟩) l.length cap, .slice (some ⟨b2, o2, none⟩) 1 c2] w fun e w' => e = .returned (.int .i64 ((Lib.countByte l x : Nat) : Int)) ∧ w = w' := by
  have h := Lib.run_countAt (P := Tryd.prog) w ⟨b, off, none⟩ l.length cap (xv l) (xv_len l) (cells_xv hb) (x.toNat : Int)
  rw [bytesOf_xv, show ((x.toNat : Int)).toNat.toUInt8 = x by simp] at h
  go_enter Tryd.func25, Tryd.ntmps25
  go_wp2
  rw [run_callFunc_extern Tryd.func30 (by kernel_rfl) (by kernel_rfl) (by kernel_rfl) (e := Extern.BytealgCount.count) (by kernel_rfl), h]
  simp only [Result.andThen]
  rw [Oper.upon_value]
  go_wp2
  go_ret
  exact ⟨rfl, rfl⟩
set_option maxRecDepth 100000 in
set_option maxHeartbeats 1000000 in
theorem Count_one_nil (cap b2 o2 c2 : Nat) (x : UInt8) (w : World) (hx : w.cell? ⟨b2, o2, none⟩ = some (.int .u8 (x.toNat : Int))) :
    Calls Tryd.prog 25 #[.slice none 0 cap, .slice (some ⟨b2, o2, none⟩) 1 c2] w fun e w' => e = .returned (.int .i64 0) ∧ w = w' := by
  have h := Lib.run_countNil (P := Tryd.prog) w 0 cap (x.toNat : Int)
  go_enter Tryd.func25, Tryd.ntmps25
  go_wp2
  rw [run_callFunc_extern Tryd.func30 (by kernel_rfl) (by kernel_rfl) (by kernel_rfl) (e := Extern.BytealgCount.count) (by kernel_rfl), h]
  simp only [Result.andThen]
  rw [Oper.upon_value]
  go_wp2
  go_ret
  exact ⟨rfl, rfl⟩
set_option maxRecDepth 100000 in
set_option maxHeartbeats 1000000 in
theorem IndexByte_any (b off cap : Nat) (l : List UInt8) (x : UInt8) (w : World) (hb : Bytes w (some ⟨b, off, none⟩) l) :
    Calls Tryd.prog 31 #[.slice (some ⟨b, off, none⟩) l.length cap, .int .u8 (x.toNat : Int)] w fun e w' => e = .returned (.int .i64 (Lib.indexByte l x)) ∧ w = w' := by
  have h := Lib.run_indexByteAt (P := Tryd.prog) w ⟨b, off, none⟩ l.length cap (xv l) (xv_len l) (cells_xv hb) (x.toNat : Int)
  rw [bytesOf_xv, show ((x.toNat : Int)).toNat.toUInt8 = x by simp] at h
  go_enter Tryd.func31, Tryd.ntmps31
  go_wp2
  rw [run_callFunc_extern Tryd.func38 (by kernel_rfl) (by kernel_rfl) (by kernel_rfl) (e := Extern.BytealgIndexByte.indexByte) (by kernel_rfl), h]
  simp only [Result.andThen]
  rw [Oper.upon_value]
  go_wp2
  go_ret
  exact ⟨rfl, rfl⟩
set_option maxRecDepth 100000 in
set_option maxHeartbeats 1000000 in
theorem Index_one (b off cap b2 o2 c2 : Nat) (l : List UInt8) (x : UInt8) (w : World) (hb : Bytes w (some ⟨b, off, none⟩) l) (hx : w.cell? ⟨b2, o2, none⟩ = some (.int .u8 (x.toNat : Int))) :
    Calls Tryd.prog 26 #[.slice (some ⟨b, off, none⟩) l.length cap, .slice (some ⟨b2, o2, none⟩) 1 c2] w fun e w' => e = .returned (.int .i64 (Lib.indexByte l x)) ∧ w = w' := by
  have HC := Lib.hid (IndexByte_any b off cap l x w hb)
  clear hb
  go_enter Tryd.func26, Tryd.ntmps26
  go_wp2_with (go_at_call 31; refine HC.out.mono ?_; rintro e w' ⟨rfl, rfl⟩)
  go_ret
  exact ⟨rfl, rfl⟩
/-- make of whole elements, of any size -/
theorem wp_makeB {P : Program} {t e : TypeId} {z : Value} {size bytes : Nat} (E : Elem P t e z size bytes) {w : World} {ops : Array Oper} {rest : List Oper} {o : Oper} {a : Act} {Q : Exit → Act → World → Prop} (hgd : o.guard = none) (l c : Operand)
    (ho : o.op = .makeSlice t l c) {kl kc : IntKind} {L C : Int} (n : Nat) (hl : a.eval l = .int kl L) (hc : a.eval c = .int kc C) (hL : L = (n : Int)) (hC : C = (n : Int)) (h63 : n ≤ maxLen) (hbytes : bytes * n ≤ 281474976710656)
    (h : ∀ w', Blk w' w.heap.size e (madeCells z.cells (n * size)).toList → Gr w w' → w'.heap.size = w.heap.size + 1 → wpList P ops Q rest (a.put o.dst (.slice (some ⟨w.heap.size, 0, none⟩) n n)) w') :
    wpList P ops Q (o :: rest) a w := by
  refine wpList_plain hgd fun K hK => ?_
  obtain ⟨ht, hinfo, hzs, hpos⟩ := E
  obtain ⟨i, hi, hz, hsize, hby⟩ := info_parts hinfo
  subst hL
  subst hC
  have h63' : (n : Int) ≤ 9223372036854775807 := by simp [maxLen] at h63; omega
  have hb' : (i.bytes : Int) * (n : Int) ≤ 281474976710656 := by
    have h : ((i.bytes * n : Nat) : Int) ≤ 281474976710656 := by rw [hby]; omega
    rwa [Int.natCast_mul] at h
  have hr := run_make (P := P) w t e i z ht hi hz kl kc n n (by omega) (by omega) hb' h63'
  simp only [Int.toNat_natCast] at hr
  unfold Oper.wp
  simp only [execOp, ho, hl, hc, Sem.run_bind, Sem.run_pure, hr, Result.andThen_ok]
  refine hK _ _ (h _ ?_ (Gr.alloc _ _) (by simp))
  rw [hsize]
  exact Blk.new w e _
section
variable {P : Program}
theorem Blk.setRow {w : World} {b : Nat} {e : TypeId} {cs : List Value} (h : Blk w b e cs) (ds : List Value) : Blk (w.setRow b ds.toArray) b e ds := setRow_heap w b cs.toArray ds.toArray e (0, 0) h
theorem grown_setRow (w : World) (b : Nat) (cs : Array Value) : w.grownBy (w.setRow b cs) (some b) := ⟨rfl, rfl, rfl, by simp, fun k _ hk => setRow_other w b k cs (fun e => hk (by rw [e]))⟩
theorem wp_copy {dT sT e : TypeId} {z : Value} {bytes : Nat} (E : Elem P dT e z 1 bytes) {w : World} {ops : Array Oper} {rest : List Oper} {o : Oper} {a : Act} {Q : Exit → Act → World → Prop} (hgd : o.guard = none) (x y : Operand)
    (ho : o.op = .call { callee := .builtin .copy, args := #[x, y], argTypes := #[dT, sT] }) {b off dl dc sl sc : Nat} {sa xa : Option Addr} {cur src : List Value} (hx : a.eval x = .slice xa dl dc) (hxa : 0 < sl → xa = some ⟨b, off, none⟩) (hy : a.eval y = .slice sa sl sc)
    (hb : Blk w b e cur) (hs : Row w sa src) (hsl : src.length = sl) (hle : sl ≤ dl) (hfit : off + sl ≤ cur.length) (h1 : ∀ v ∈ src, v.oneCell' = true)
    (h : ∀ w', Blk w' b e (cur.take off ++ src ++ cur.drop (off + sl)) → w.grownBy w' (some b) → wpList P ops Q rest (a.put o.dst (goInt sl)) w') : wpList P ops Q (o :: rest) a w := by
  subst hsl
  refine wpList_plain hgd fun K hK => ?_
  obtain ⟨ht, hinfo, _, _⟩ := E
  obtain ⟨i, hi, _, hsize, _⟩ := info_parts hinfo
  have hsz : (P.info? e).map (·.size) = some 1 := by rw [hi]; simp [hsize]
  unfold Oper.wp execOp
  by_cases h0 : src.length = 0
  · have hr := run_copy_none (P := P) w dT sT o.type e xa sa dl dc src.length sc ht hsz (by rw [h0]; exact Nat.zero_min _)
    simp only [ho, resolve, invoke, builtin, Sem.run_bind, Sem.run_pure, Result.andThen_ok, List.map_toArray, List.map_cons, List.map_nil, hx, hy, hr]
    have := h w (by
      have : src = [] := List.eq_nil_of_length_eq_zero h0
      subst this
      simpa using hb) ((Gr.refl w).far)
    rw [h0] at this
    exact hK _ _ this
  · obtain rfl := hxa (by omega)
    cases sa with
    | none =>
      exfalso
      cases src with
      | nil => exact h0 rfl
      | cons v r => obtain ⟨_, _, hh, _⟩ := hs 0 v rfl; cases hh
    | some ad =>
      have hr := run_copy_row (P := P) w dT sT o.type e b off dl dc ad src.length sc cur.toArray e src ht hsz hb (by exact (Nat.min_eq_left hle).symm) (fun j v hj => by
        obtain ⟨bb, oo, hh, hc⟩ := hs j v hj
        cases hh
        have hadd : (⟨bb, oo, none⟩ : Addr).add j = ⟨bb, oo + j, none⟩ := by unfold Addr.add; split <;> simp_all
        rw [hadd]; exact hc) (by simpa using hfit) h1
      simp only [ho, resolve, invoke, builtin, Sem.run_bind, Sem.run_pure, Result.andThen_ok, List.map_toArray, List.map_cons, List.map_nil, hx, hy, hr]
      exact hK _ _ (h _ (hb.setRow _) (grown_setRow _ _ _))
/-- copy, into a block that is known whole -/
theorem copy_run {dT sT ty e : TypeId} {z : Value} {bytes : Nat} (E : Elem P dT e z 1 bytes) {w : World} {b off dl dc sl sc : Nat} {sa xa : Option Addr} {cur src : List Value} (hxa : 0 < sl → xa = some ⟨b, off, none⟩)
    (hb : Blk w b e cur) (hs : Row w sa src) (hsl : src.length = sl) (hle : sl ≤ dl) (hfit : off + sl ≤ cur.length) (h1 : ∀ v ∈ src, v.oneCell' = true) :
    ∃ w', (Builtin.copy_ #[dT, sT] ty #[.slice xa dl dc, .slice sa sl sc]).run P w = .ok (.int .i64 (sl : Int)) w' ∧ Blk w' b e (cur.take off ++ src ++ cur.drop (off + sl)) ∧ w.grownBy w' (some b) := by
  subst hsl
  obtain ⟨ht, hinfo, _, _⟩ := E
  obtain ⟨i, hi, _, hsize, _⟩ := info_parts hinfo
  have hsz : (P.info? e).map (·.size) = some 1 := by rw [hi]; simp [hsize]
  by_cases h0 : src.length = 0
  · have hr := run_copy_none (P := P) w dT sT ty e xa sa dl dc src.length sc ht hsz (by rw [h0]; exact Nat.zero_min _)
    refine ⟨w, by rw [hr, h0]; rfl, ?_, (Gr.refl w).far⟩
    have : src = [] := List.eq_nil_of_length_eq_zero h0
    subst this
    simpa using hb
  · obtain rfl := hxa (by omega)
    cases sa with
    | none =>
      exfalso
      cases src with
      | nil => exact h0 rfl
      | cons v r => obtain ⟨_, _, hh, _⟩ := hs 0 v rfl; cases hh
    | some ad =>
      have hr := run_copy_row (P := P) w dT sT ty e b off dl dc ad src.length sc cur.toArray e src ht hsz hb (by exact (Nat.min_eq_left hle).symm) (fun j v hj => by
        obtain ⟨bb, oo, hh, hc⟩ := hs j v hj
        cases hh
        have hadd : (⟨bb, oo, none⟩ : Addr).add j = ⟨bb, oo + j, none⟩ := by unfold Addr.add; split <;> simp_all
        rw [hadd]; exact hc) (by simpa using hfit) h1
      exact ⟨_, hr, hb.setRow _, grown_setRow _ _ _⟩
end
/-- a value, and what the row has become -/
def CopiedB (x : Value) (row : Option Nat) (B : Option Obj) : Value → World → Prop := fun v w => v = x ∧ ∀ g, row = some g → w.heap[g]? = B
theorem CopiedB.stable {x : Value} {row : Option Nat} {A B : Option Obj} : Stable (Once row A B) (CopiedB x row B) := fun v _ _ ⟨e, h⟩ k => ⟨e, StoredB.stable v _ _ h k⟩
/-- where the next nought is -/
theorem index_split : ∀ {pre : List UInt8} (post : List UInt8), (0 : UInt8) ∉ pre → Lib.indexByte (pre ++ 0 :: post) 0 = (pre.length : Int)
  | [], post, _ => by simp [Lib.indexByte]
  | y :: r, post, h => by
    have hy : (y == (0 : UInt8)) = false := by rw [beq_eq_false_iff_ne]; exact fun e => h (by rw [e]; exact List.mem_cons_self ..)
    have ih := index_split post (pre := r) (fun e => h (List.mem_cons_of_mem _ e))
    rw [List.cons_append, Lib.indexByte, hy, ih]
    have h2 : (((r.length : Nat) : Int) == -1) = false := by rw [beq_eq_false_iff_ne]; omega
    rw [h2]
    simp
theorem zero_split : ∀ {l : List UInt8}, 0 < Lib.countByte l 0 → ∃ pre post, l = pre ++ 0 :: post ∧ (0 : UInt8) ∉ pre
  | [], h => by simp [Lib.countByte] at h
  | y :: r, h => by
    by_cases hy : y = 0
    · exact ⟨[], r, by rw [hy]; rfl, by simp⟩
    · have : 0 < Lib.countByte r 0 := by
        unfold Lib.countByte at h ⊢
        rwa [List.count_cons_of_ne (fun e => hy e)] at h
      obtain ⟨pre, post, e, hn⟩ := zero_split this
      exact ⟨y :: pre, post, by rw [e]; rfl, fun hm => by
        rcases List.mem_cons.1 hm with e | e
        · exact hy e.symm
        · exact hn e⟩
theorem count_app (a b : List UInt8) : Lib.countByte (a ++ b) 0 = Lib.countByte a 0 + Lib.countByte b 0 := by unfold Lib.countByte; exact List.count_append
theorem count_none {l : List UInt8} (h : (0 : UInt8) ∉ l) : Lib.countByte l 0 = 0 := by unfold Lib.countByte; exact List.count_eq_zero.2 h
theorem none_count {l : List UInt8} (h : Lib.countByte l 0 = 0) : (0 : UInt8) ∉ l := by unfold Lib.countByte at h; exact List.count_eq_zero.1 h
theorem escF_none : ∀ {l : List UInt8}, (0 : UInt8) ∉ l → escF l = l
  | [], _ => rfl
  | x :: r, h => by
    have hx : x ≠ 0 := fun e => h (by rw [e]; exact List.mem_cons_self ..)
    rw [escF_other hx, escF_none (fun e => h (List.mem_cons_of_mem _ e))]
theorem escF_count : ∀ l : List UInt8, (escF l).length = l.length + Lib.countByte l 0
  | [] => rfl
  | x :: r => by
    have ih := escF_count r
    by_cases hx : x = 0
    · subst hx
      rw [escF_zero]
      unfold Lib.countByte at ih ⊢
      rw [List.count_cons_self]
      simp only [List.length_cons]
      omega
    · rw [escF_other hx]
      unfold Lib.countByte at ih ⊢
      rw [List.count_cons_of_ne (fun e => hx e)]
      simp only [List.length_cons]
      omega
/-- what is laid so far, and noughts -/
def rowE (E : List UInt8) (N : Nat) : List Value := bv E ++ List.replicate (N - E.length) (.int .u8 0)
theorem rowE_len {E : List UInt8} {N : Nat} (h : E.length ≤ N) : (rowE E N).length = N := by simp [rowE, bv_length]; omega
theorem rowE_step {E x : List UInt8} {N : Nat} (h : E.length + x.length ≤ N) : (rowE E N).take E.length ++ bv x ++ (rowE E N).drop (E.length + x.length) = rowE (E ++ x) N := by
  unfold rowE
  have h1 : (bv E).length = E.length := bv_length E
  rw [← h1, List.take_left, List.drop_append, List.drop_eq_nil_of_le (by omega), List.nil_append, List.drop_replicate, bv_append, h1, List.length_append]
  congr 2
  omega
theorem rowE_again {E x : List UInt8} {N : Nat} : (rowE (E ++ x) N).take E.length ++ bv x ++ (rowE (E ++ x) N).drop (E.length + x.length) = rowE (E ++ x) N := by
  unfold rowE
  have h1 : (bv E).length = E.length := bv_length E
  have h2 : (bv x).length = x.length := bv_length x
  generalize List.replicate (N - (E ++ x).length) (Value.int .u8 0) = Z
  rw [bv_append, List.append_assoc, ← h1, ← h2, List.append_assoc, List.take_left, ← List.drop_drop, List.drop_left, List.drop_left]
/-- one more copy into what is laid -/
theorem once_copy {dT sT ty : TypeId} {z : Value} {bytes : Nat} (EE : Elem Tryd.prog dT 5 z 1 bytes) {w : World} {bt dl dc sc N : Nat} {sa xa : Option Addr} {E x : List UInt8} (hxa : 0 < x.length → xa = some ⟨bt, E.length, none⟩)
    (hcs : w.heap[bt]? = some (.cells (rowE E N).toArray 5 (0, 0)) ∨ w.heap[bt]? = some (.cells (rowE (E ++ x) N).toArray 5 (0, 0))) (hs : Row w sa (bv x)) (hle : x.length ≤ dl) (hfit : E.length + x.length ≤ N) :
    ∃ w', (Builtin.copy_ #[dT, sT] ty #[.slice xa dl dc, .slice sa x.length sc]).run Tryd.prog w = .ok (.int .i64 (x.length : Int)) w' ∧ Once (some bt) (some (.cells (rowE E N).toArray 5 (0, 0))) (some (.cells (rowE (E ++ x) N).toArray 5 (0, 0))) w w' ∧ w'.heap[bt]? = some (.cells (rowE (E ++ x) N).toArray 5 (0, 0)) := by
  rcases hcs with h | h
  · obtain ⟨w', r1, r2, r3⟩ := copy_run (ty := ty) (sT := sT) (dc := dc) (sc := sc) EE hxa (show Blk w bt 5 (rowE E N) from h) hs (bv_length x) hle (by rw [rowE_len (by omega)]; exact hfit) (bv_one x)
    rw [rowE_step hfit] at r2
    exact ⟨w', r1, ⟨r3, fun g hg => by cases hg; exact .inr ⟨h, r2⟩⟩, r2⟩
  · obtain ⟨w', r1, r2, r3⟩ := copy_run (ty := ty) (sT := sT) (dc := dc) (sc := sc) EE hxa (show Blk w bt 5 (rowE (E ++ x) N) from h) hs (bv_length x) hle (by rw [rowE_len (by rw [List.length_append]; exact hfit)]; exact hfit) (bv_one x)
    rw [rowE_again] at r2
    exact ⟨w', r1, ⟨r3, fun g hg => by cases hg; exact .inl (Eq.trans r2 h.symm)⟩, r2⟩
theorem Owns.of_blk {w : World} {b base n : Nat} {e : TypeId} {xs : List Value} (h : Blk w b e xs) (hb : base ≤ b) (hn : xs.length = n) (hm : n ≤ maxLen) : Owns w base e 1 (some ⟨b, 0, none⟩) n n xs := by
  refine ⟨by omega, Nat.le_refl _, hm, .inr ⟨b, xs.toArray, (0, 0), rfl, hb, h, by simp, by simp [hn], ?_⟩⟩
  simp [← hn]
theorem rowE_all (E : List UInt8) : rowE E E.length = bv E := by simp [rowE]
set_option maxRecDepth 100000 in
set_option maxHeartbeats 4000000 in
theorem Replace_zero (b off cap b2 o2 c2 b3 o3 c3 : Nat) (l : List UInt8) (w : World) (hl : l.length ≤ 1000000) (hl1 : 1 ≤ l.length) (hlc : l.length ≤ cap) (hb : Bytes w (some ⟨b, off, none⟩) l) (hx : w.cell? ⟨b2, o2, none⟩ = some (.int .u8 0)) (hy : Bytes w (some ⟨b3, o3, none⟩) [0, 255]) :
    Calls Tryd.prog 23 #[.slice (some ⟨b, off, none⟩) l.length cap, .slice (some ⟨b2, o2, none⟩) 1 c2, .slice (some ⟨b3, o3, none⟩) 2 c3, .int .i64 (-1)] w (RetB 5 w (escF l)) := by
  have HC := Lib.hid (Count_one b off cap b2 o2 c2 l 0 w hb hx)
  have HB := Lib.hid hb; have HX := Lib.hid hx; have HY := Lib.hid hy
  by_cases h0 : Lib.countByte l 0 = 0
  · have HE := Lib.hid (escF_none (none_count h0))
    rw [h0] at HC
    have m1 : 0 + l.length ≤ maxLen := by unfold maxLen; omega
    have m2 : (0 + l.length) * 1 ≤ 140737488355328 := by omega
    clear h0 hb hx hy
    go_enter Tryd.func23, Tryd.ntmps23
    go_wp2_with (first
      | (go_at_call 25; refine HC.out.mono ?_; rintro e w' ⟨rfl, rfl⟩)
      | (at_builtin; go_must (refine wp_append elemB rfl _ _ rfl rfl (Owns.empty w w.heap.size 5 1) rfl (Src.bytes HB.out rfl Tryd.underlying25) m1 m2 (Nat.le_refl _) ?_); intro ad8 cap8 w8 o8 k8 f8))
    go_ret
    rw [Nat.zero_add] at o8
    exact ⟨ad8, cap8, by rw [HE.out]; simp, by rw [HE.out]; exact o8, (Gr.refl w).grown k8 (fun k h => by cases h)⟩
  · obtain ⟨c, hc⟩ : ∃ c, c = Lib.countByte l 0 := ⟨_, rfl⟩
    have hN := escF_count l
    have hcl : c ≤ l.length := by rw [hc]; unfold Lib.countByte; exact List.count_le_length
    rw [← hc] at HC h0 hN
    have HN := Lib.hid hN
    have HCC := Lib.hid hc
    have hc0 : ((c : Int) == 0) = false := by rw [beq_eq_false_iff_ne]; omega
    have hc1 : 0 < c := by omega
    have e1 : IntKind.i64.wrap ((c : Int) * 1) = (c : Int) := by rw [IntKind.wrap_i64]; omega
    clear hb hx hy h0 hN hc
    go_enter Tryd.func23, Tryd.ntmps23
    go_wp2_with (first
      | (go_at_call 25; refine HC.out.mono ?_; rintro e w' ⟨rfl, rfl⟩)
      | (at_make; go_must (refine wp_makeB elemB rfl _ _ rfl (l.length + c) rfl rfl (by omega) (by omega) (by unfold maxLen; omega) (by omega) ?_); intro w1 o1 g1 z1))
    have HBk := Lib.hid (show Blk w1 w.heap.size 5 (rowE [] (l.length + c)) by
      have : (madeCells (Value.int IntKind.u8 0).cells ((l.length + c) * 1)).toList = rowE [] (l.length + c) := by
        rw [Nat.mul_one]
        unfold rowE
        rw [show (Value.int IntKind.u8 0).cells = #[.int .u8 0] from rfl, toList_madeCells_one]
        simp [bv]
      rw [← this]; exact o1)
    have HG1 := Lib.hid g1
    clear o1 g1 z1
    obtain ⟨bt, hbt⟩ : ∃ bt, bt = w.heap.size := ⟨_, rfl⟩
    rw [← hbt] at HBk ⊢
    have HBT := Lib.hid hbt
    obtain ⟨N, hNe⟩ : ∃ N, N = l.length + c := ⟨_, rfl⟩
    have hNc : (l.length : Int) + (c : Int) = (N : Int) := by omega
    rw [hNc]
    rw [← hNe] at HBk HN ⊢
    have HNE := Lib.hid hNe
    have hN2 : N ≤ 2000000 := by omega
    clear hbt hNc hNe
    go_loopw [11, 12, 49] (fun vw vs vk wr => ∃ k st : Nat, k ≤ c ∧ st ≤ l.length ∧ vk = .int .i64 (k : Int) ∧ vs = .int .i64 (st : Int) ∧ vw = .int .i64 ((escF (l.take st)).length : Int) ∧ Lib.countByte (l.take st) 0 = k ∧ Blk wr bt 5 (rowE (escF (l.take st)) N) ∧ Gr w wr) (fun _ _ vk _ => c - (intOf vk).toNat)
    case atStart => exact ⟨0, 0, Nat.zero_le _, Nat.zero_le _, rfl, rfl, rfl, rfl, HBk.out, HG1.out⟩
    case round =>
      clear HBk HG1
      obtain ⟨k, st, hk, hst, rfl, rfl, rfl, hct, hBk, hg⟩ := hrel
      have hsum : Lib.countByte (l.take st) 0 + Lib.countByte (l.drop st) 0 = c := by rw [← count_app, List.take_append_drop]; exact HCC.out.symm
      by_cases hkc : k < c
      · obtain ⟨pre, post, hsp, hpn⟩ := zero_split (l := l.drop st) (by omega)
        have hln : (l.drop st).length = l.length - st := List.length_drop
        have hln2 : l.length - st = pre.length + 1 + post.length := by rw [← hln, hsp]; simp; omega
        have htk : l.take (st + pre.length + 1) = l.take st ++ pre ++ [0] := by
          have h1 : l = l.take st ++ (pre ++ [0]) ++ post := by
            conv => lhs; rw [← List.take_append_drop st l, hsp]
            simp
          have h2 : (l.take st ++ (pre ++ [0])).length = st + pre.length + 1 := by simp; omega
          conv => lhs; rw [h1, ← h2, List.take_left]
          simp
        have hE2 : escF (l.take (st + pre.length + 1)) = escF (l.take st) ++ pre ++ [0, 255] := by
          rw [htk, escF_append, escF_append, escF_none hpn]; rfl
        have hct2 : Lib.countByte (l.take (st + pre.length + 1)) 0 = k + 1 := by
          rw [htk, count_app, count_app, count_none hpn, hct]; rfl
        have hlen2 : (escF (l.take st)).length + pre.length + 2 ≤ N := by
          have h1 := escF_count (l.take (st + pre.length + 1))
          rw [hE2, hct2, List.length_append, List.length_append] at h1
          have h2 : (l.take (st + pre.length + 1)).length ≤ l.length := List.length_take_le' _ _
          have h3 := HNE.out
          simp at h1
          rw [List.length_take] at h2
          omega
        have HIx := Lib.hid (fun (w' : World) (h : Gr w w') => by
          have := Index_one b (off + st) (cap - st) b2 o2 c2 (l.drop st) 0 w' ((HB.out.gr h).drop st) (h.cell HX.out)
          rw [hsp, index_split post hpn, ← hsp, hln] at this
          exact this)
        have hrowp : ∀ w', Gr w w' → Row w' (some ⟨b, off + st, none⟩) (bv pre) := fun w' h => by
          have h1 := ((HB.out.gr h).drop st).take pre.length
          rw [hsp, List.take_left] at h1
          exact h1.row
        have HRP := Lib.hid hrowp
        have HE2 := Lib.hid hE2; have HC2 := Lib.hid hct2
        obtain ⟨i, hi⟩ : ∃ i, i = pre.length := ⟨_, rfl⟩
        have HI := Lib.hid hi
        rw [← hi] at HIx hlen2 hln2 HE2 HC2
        have hln3 : st + i + 1 ≤ l.length := by omega
        clear hln2
        have hcne : ¬ cap = st := by omega
        generalize hEe : escF (l.take st) = E at *
        have HBk := Lib.hid hBk; have HG := Lib.hid hg
        clear hBk hg hct hsum hsp hln htk hE2 hct2 hrowp hi hEe
        have hNE : ¬ N = E.length := by omega
        have hNE2 : ¬ N = E.length + i := by omega
        go_wp2_with (first
          | (go_at_call 26; refine (HIx.out _ HG.out).mono ?_; rintro e w' ⟨rfl, rfl⟩))
        have HW15 := Lib.hid HBk.out.drew
        have e2 : IntKind.i64.wrap ((E.length : Int) + (i : Int)) = (E.length : Int) + (i : Int) := by rw [IntKind.wrap_i64]; omega
        refine region_store_once (some bt) (some (.cells (rowE E N).toArray 5 (0, 0))) (some (.cells (rowE (E ++ pre) N).toArray 5 (0, 0))) _ [Is (.int .i64 (E.length : Int)), Is (.slice (some ⟨bt, 0, none⟩) N N), Is (.int .i64 (E.length : Int)), Is (.slice (some ⟨bt, E.length, none⟩) (N - E.length) (N - E.length)), Is (.slice (some ⟨b, off, none⟩) l.length cap), Is (.int .i64 (st : Int)), Is (.int .i64 ((st : Int) + (i : Int))), Is (.slice (some ⟨b, off + st, none⟩) i (cap - st)), CopiedB (.int .i64 (i : Int)) (some bt) (some (.cells (rowE (E ++ pre) N).toArray 5 (0, 0))), Is (.int .i64 ((E.length : Int) + (i : Int))), Is (.int .i64 ((E.length : Int) + (i : Int)))] (by kernel_rfl) (by kernel_rfl) (by kernel_rfl) rfl rfl ⟨Is.stable _, Is.stable _, Is.stable _, Is.stable _, Is.stable _, Is.stable _, Is.stable _, Is.stable _, CopiedB.stable, Is.stable _, Is.stable _, trivial⟩ ⟨?s0, ?s1, ?s2, ?s3, ?s4, ?s5, ?s6, ?s7, ?s8, ?s9, ?s10, trivial⟩ ?fin
        case' s0 | s1 | s2 | s3 | s4 | s5 | s6 | s7 | s9 | s10 =>
          intro ρ wr hρ hg hK
          simp [readsOf, slotsOf, Op.operands, Call.operands, tmpOf, List.filterMap_cons, List.filterMap_nil, KnownAll, knownOf, srcOf, depsOf, dstOf, Region.binds, nth, Is] at hK
          obtain ⟨hc, hf, hgl⟩ := hρ
          try simp only [wantedBy, dstOf, boolOf, nth, List.getD_cons_zero, List.getD_cons_succ, List.getElem?_cons_zero, List.getElem?_cons_succ, Option.bind_some, if_true, hK, BEq.rfl]
          try go_simp
          first | exact rfl | (rw [if_pos (by omega)]; exact is_here rfl) | (rw [dif_pos (by omega)]; exact is_here rfl) | exact congrArg (Value.int _) (IntWalk.i64_in _ ⟨by omega, by omega⟩) | skip
        case' s8 =>
          intro ρ wr hρ hg hK
          simp [readsOf, slotsOf, Op.operands, Call.operands, tmpOf, List.filterMap_cons, List.filterMap_nil, KnownAll, knownOf, srcOf, depsOf, dstOf, Region.binds, nth, Is] at hK
          obtain ⟨hc, hf, hgl⟩ := hρ
          try simp only [wantedBy, dstOf, boolOf, nth, List.getD_cons_zero, List.getD_cons_succ, List.getElem?_cons_zero, List.getElem?_cons_succ, Option.bind_some, if_true, hK, BEq.rfl]
        case s8 =>
          obtain ⟨k0, k1⟩ := hK
          have hcs : wr.heap[bt]? = some (.cells (rowE E N).toArray 5 (0, 0)) ∨ wr.heap[bt]? = some (.cells (rowE (E ++ pre) N).toArray 5 (0, 0)) := by
            rcases hg.2 bt rfl with h | ⟨_, h⟩
            · exact .inl (Eq.trans h HBk.out)
            · exact .inr h
          have hrp : Row wr (some ⟨b, off + st, none⟩) (bv pre) := HRP.out _ (HG.out.grown hg.1 (fun k hk => by cases hk; rw [HBT.out]; exact Nat.le_refl _))
          obtain ⟨w9, r1, r2, r3⟩ := once_copy (dT := 25) (sT := 25) (ty := 3) elemB (xa := some ⟨bt, E.length, none⟩) (dl := N - E.length) (dc := N - E.length) (sc := cap - st) (fun _ => rfl) hcs hrp (by rw [← HI.out]; omega) (by rw [← HI.out]; omega)
          rw [← HI.out] at r1
          simp only [execOp, resolve, invoke, builtin, Sem.run_bind, Sem.run_pure, Result.andThen_ok, List.map_toArray, List.map_cons, List.map_nil, k0, k1]
          rw [r1]
          exact ⟨r2, rfl, fun g hg' => by cases hg'; exact r3⟩
        case s3 =>
          rw [if_pos (by omega)]
          exact ⟨Once.refl _, rfl⟩
        case s7 =>
          rw [if_pos ⟨by omega, by omega⟩, if_pos (by omega)]
          refine ⟨Once.refl _, ?_⟩
          rw [show ((st : Int) + (i : Int)).toNat - st = i by omega]
          exact rfl
        case s9 =>
          rw [hK.2.1]
          go_simp
          exact rfl
        case fin =>
          intro w1 val hg hH
          simp only [Holds, Is, Nat.zero_add, Nat.reduceAdd] at hH
          obtain ⟨h0, h1, h2, h3, h4, h5, h6, h7, h8, h9, h10, _⟩ := hH
          simp only [List.take_succ_cons, List.take_zero, List.drop_succ_cons, List.drop_zero, putAll, h0, h1, h2, h3, h4, h5, h6, h7, h9, h10, Nat.zero_add, Nat.reduceAdd]
          simp only [h8.1]
          have hb9 : Blk w1 bt 5 (rowE (E ++ pre) N) := h8.2 bt rfl
          have hG9 := HG.out.grown hg.1 (fun k hk => by cases hk; rw [HBT.out]; exact Nat.le_refl _)
          have HB9 := Lib.hid hb9; have HG9 := Lib.hid hG9
          clear hb9 hG9 h8 hg HBk HG HW15
          have hNE3 : ¬ N = E.length + i := by omega
          go_simp
          go_wp2_with (first
            | ((with_reducible show Go.wpList _ _ _ (Oper.mk _ (Op.call (Call.mk (Callee.builtin Builtin.copy) _ _)) _ _ _ _ :: _) _ _)
               go_must (refine wp_copy elemB rfl _ _ rfl rfl (fun _ => rfl) rfl HB9.out (HY.out.gr HG9.out).row (by rw [bv_length]; rfl) (by omega) (by rw [rowE_len (by rw [List.length_append, ← HI.out]; omega)]; omega) (bv_one _) ?_); intro w10 o10 k10)
            | fail)
          have HB10 := Lib.hid (show Blk w10 bt 5 (rowE (E ++ pre ++ [0, 255]) N) by
            have := rowE_step (E := E ++ pre) (x := [0, 255]) (N := N) (by rw [List.length_append, ← HI.out]; simp; omega)
            rw [List.length_append, ← HI.out] at this
            rw [← this]; exact o10)
          have HG10 := Lib.hid (HG9.out.grown k10 (fun k hk => by cases hk; rw [HBT.out]; exact Nat.le_refl _))
          clear o10 k10 HB9 HG9
          go_wp2
          go_roundw
          case rel => exact ⟨k + 1, st + i + 1, hkc, hln3, by go_num, by go_num, by rw [HE2.out, List.length_append, List.length_append, ← HI.out]; go_num, HC2.out, by rw [HE2.out]; exact HB10.out, HG10.out⟩
          case measure => simp [intOf]; omega
      · obtain rfl : k = c := by omega
        have hz : Lib.countByte (l.drop st) 0 = 0 := by omega
        have hE2 : escF l = escF (l.take st) ++ l.drop st := by
          conv => lhs; rw [← List.take_append_drop st l]
          rw [escF_append, escF_none (none_count hz)]
        have hln : (l.drop st).length = l.length - st := List.length_drop
        have hNl : (escF (l.take st)).length + (l.length - st) = N := by rw [← HN.out, hE2, List.length_append, hln]
        have hrx : ∀ w', Gr w w' → Row w' (some ⟨b, off + st, none⟩) (bv (l.drop st)) := fun w' h => ((HB.out.gr h).drop st).row
        have HRX := Lib.hid hrx
        have HE2 := Lib.hid hE2
        generalize hEe : escF (l.take st) = E at *
        have HBk := Lib.hid hBk; have HG := Lib.hid hg
        clear hBk hg hct hsum hz hE2 hrx hEe
        by_cases hs1 : st < l.length
        · have hNE : ¬ N = E.length := by omega
          have hcne : ¬ cap = st := by omega
          have hEN : E.length < N := by omega
          generalize hx9 : l.drop st = x at *
          obtain ⟨i, hi⟩ : ∃ i, i = x.length := ⟨_, rfl⟩
          have hi2 : i = l.length - st := by rw [hi, hln]
          have HI := Lib.hid hi; have HI2 := Lib.hid hi2
          have hiN : E.length + i ≤ N := by omega
          have e2 : IntKind.i64.wrap ((E.length : Int) + (i : Int)) = (E.length : Int) + (i : Int) := by rw [IntKind.wrap_i64]; omega
          clear hln hNl hx9 hi hi2
          go_wp2
          refine region_store_once (some bt) (some (.cells (rowE E N).toArray 5 (0, 0))) (some (.cells (rowE (E ++ x) N).toArray 5 (0, 0))) _ [Is (.int .i64 (E.length : Int)), Is (.slice (some ⟨bt, 0, none⟩) N N), Is (.int .i64 (E.length : Int)), Is (.slice (some ⟨bt, E.length, none⟩) (N - E.length) (N - E.length)), Is (.slice (some ⟨b, off, none⟩) l.length cap), Is (.int .i64 (st : Int)), Is (.slice (some ⟨b, off + st, none⟩) i (cap - st)), CopiedB (.int .i64 (i : Int)) (some bt) (some (.cells (rowE (E ++ x) N).toArray 5 (0, 0))), Is (.int .i64 ((E.length : Int) + (i : Int))), Is (.int .i64 ((E.length : Int) + (i : Int)))] (by kernel_rfl) (by kernel_rfl) (by kernel_rfl) rfl rfl ⟨Is.stable _, Is.stable _, Is.stable _, Is.stable _, Is.stable _, Is.stable _, Is.stable _, CopiedB.stable, Is.stable _, Is.stable _, trivial⟩ ⟨?s0x1, ?s1x1, ?s2x1, ?s3x1, ?s4x1, ?s5x1, ?s6x1, ?s7x1, ?s8x1, ?s9x1, trivial⟩ ?finx1
          case' s0x1 | s1x1 | s2x1 | s3x1 | s4x1 | s5x1 | s6x1 | s8x1 | s9x1 =>
            intro ρ wr hρ hg hK
            simp [readsOf, slotsOf, Op.operands, Call.operands, tmpOf, List.filterMap_cons, List.filterMap_nil, KnownAll, knownOf, srcOf, depsOf, dstOf, Region.binds, nth, Is] at hK
            obtain ⟨hc, hf, hgl⟩ := hρ
            try simp only [wantedBy, dstOf, boolOf, nth, List.getD_cons_zero, List.getD_cons_succ, List.getElem?_cons_zero, List.getElem?_cons_succ, Option.bind_some, if_true, hK, BEq.rfl]
            try go_simp
            first | exact rfl | (rw [if_pos (by omega)]; exact is_here rfl) | (rw [dif_pos (by omega)]; exact is_here rfl) | exact congrArg (Value.int _) (IntWalk.i64_in _ ⟨by omega, by omega⟩) | skip
          case' s7x1 =>
            intro ρ wr hρ hg hK
            simp [readsOf, slotsOf, Op.operands, Call.operands, tmpOf, List.filterMap_cons, List.filterMap_nil, KnownAll, knownOf, srcOf, depsOf, dstOf, Region.binds, nth, Is] at hK
            obtain ⟨hc, hf, hgl⟩ := hρ
            try simp only [wantedBy, dstOf, boolOf, nth, List.getD_cons_zero, List.getD_cons_succ, List.getElem?_cons_zero, List.getElem?_cons_succ, Option.bind_some, if_true, hK, BEq.rfl]
          case s7x1 =>
            obtain ⟨k0, k1⟩ := hK
            have hcs : wr.heap[bt]? = some (.cells (rowE E N).toArray 5 (0, 0)) ∨ wr.heap[bt]? = some (.cells (rowE (E ++ x) N).toArray 5 (0, 0)) := by
              rcases hg.2 bt rfl with h | ⟨_, h⟩
              · exact .inl (Eq.trans h HBk.out)
              · exact .inr h
            have hrp : Row wr (some ⟨b, off + st, none⟩) (bv x) := HRX.out _ (HG.out.grown hg.1 (fun k hk => by cases hk; rw [HBT.out]; exact Nat.le_refl _))
            obtain ⟨w9, r1, r2, r3⟩ := once_copy (dT := 25) (sT := 25) (ty := 3) elemB (xa := some ⟨bt, E.length, none⟩) (dl := N - E.length) (dc := N - E.length) (sc := cap - st) (fun _ => rfl) hcs hrp (by rw [← HI.out]; omega) (by rw [← HI.out]; omega)
            rw [← HI.out] at r1
            simp only [execOp, resolve, invoke, builtin, Sem.run_bind, Sem.run_pure, Result.andThen_ok, List.map_toArray, List.map_cons, List.map_nil, k0, k1]
            rw [r1]
            exact ⟨r2, rfl, fun g hg' => by cases hg'; exact r3⟩
          case s3x1 =>
            rw [if_pos (by omega)]
            exact ⟨Once.refl _, rfl⟩
          case s6x1 => rw [HI2.out]; exact rfl
          case s8x1 =>
            rw [hK.2.1]
            go_simp
            exact rfl
          case finx1 =>
            intro w1 val hg hH
            simp only [Holds, Is, Nat.zero_add, Nat.reduceAdd] at hH
            obtain ⟨h0, h1, h2, h3, h4, h5, h6, h7, h8, h9, _⟩ := hH
            simp only [List.take_succ_cons, List.take_zero, List.drop_succ_cons, List.drop_zero, putAll, h0, h1, h2, h3, h4, h5, h6, h8, h9, Nat.zero_add, Nat.reduceAdd]
            simp only [h7.1]
            have hb9 : Blk w1 bt 5 (rowE (E ++ x) N) := h7.2 bt rfl
            have hG9 := HG.out.grown hg.1 (fun k hk => by cases hk; rw [HBT.out]; exact Nat.le_refl _)
            have hNx : N = (E ++ x).length := by rw [← HE2.out]; exact HN.out.symm
            have hEiN : (E.length : Int) + (i : Int) = (N : Int) := by rw [hNx, List.length_append, ← HI.out]; omega
            rw [hEiN]
            have HNX := Lib.hid hNx
            have HB9 := Lib.hid hb9; have HG9 := Lib.hid hG9
            clear hb9 hG9 h7 hg HBk HG hNx hEiN
            go_simp
            go_wp2
            go_ret
            refine ⟨some ⟨bt, 0, none⟩, N, by rw [HN.out]; rfl, ?_, HG9.out⟩
            rw [HN.out, HE2.out]
            have h9 := HB9.out
            rw [HNX.out, rowE_all] at h9
            exact Owns.of_blk h9 (by rw [HBT.out]; exact Nat.le_refl _) (by rw [bv_length]; exact HNX.out.symm) (by unfold maxLen; omega)
        · obtain rfl : st = l.length := by omega
          have hEN : E.length = N := by omega
          have HNX := Lib.hid hEN
          have HE3 := Lib.hid (show escF l = E by rw [HE2.out, List.drop_length, List.append_nil])
          clear HE2
          have HE2 := HE3
          clear HE3 hln hNl HRX
          rw [hEN]
          clear hEN
          by_cases hcp : cap = l.length
          · subst hcp
            go_wp2
            refine region_store_once (some bt) (some (.cells (rowE E N).toArray 5 (0, 0))) (some (.cells (rowE E N).toArray 5 (0, 0))) _ [Is (.int .i64 (N : Int)), Is (.slice (some ⟨bt, 0, none⟩) N N), Is (.int .i64 (N : Int)), Is (.slice (some ⟨bt, 0, none⟩) 0 0), Is (.slice (some ⟨b, off, none⟩) l.length l.length), Is (.int .i64 (l.length : Int)), Is (.slice (some ⟨b, off, none⟩) 0 (l.length - l.length)), CopiedB (.int .i64 0) (some bt) (some (.cells (rowE E N).toArray 5 (0, 0))), Is (.int .i64 (N : Int)), Is (.int .i64 (N : Int))] (by kernel_rfl) (by kernel_rfl) (by kernel_rfl) rfl rfl ⟨Is.stable _, Is.stable _, Is.stable _, Is.stable _, Is.stable _, Is.stable _, Is.stable _, CopiedB.stable, Is.stable _, Is.stable _, trivial⟩ ⟨?s0x2, ?s1x2, ?s2x2, ?s3x2, ?s4x2, ?s5x2, ?s6x2, ?s7x2, ?s8x2, ?s9x2, trivial⟩ ?finx2
            case' s0x2 | s1x2 | s2x2 | s3x2 | s4x2 | s5x2 | s6x2 | s8x2 | s9x2 =>
              intro ρ wr hρ hg hK
              simp [readsOf, slotsOf, Op.operands, Call.operands, tmpOf, List.filterMap_cons, List.filterMap_nil, KnownAll, knownOf, srcOf, depsOf, dstOf, Region.binds, nth, Is] at hK
              obtain ⟨hc, hf, hgl⟩ := hρ
              try simp only [wantedBy, dstOf, boolOf, nth, List.getD_cons_zero, List.getD_cons_succ, List.getElem?_cons_zero, List.getElem?_cons_succ, Option.bind_some, if_true, hK, BEq.rfl]
              try go_simp
              first | exact rfl | (rw [if_pos (by omega)]; exact is_here rfl) | (rw [dif_pos (by omega)]; exact is_here rfl) | exact congrArg (Value.int _) (IntWalk.i64_in _ ⟨by omega, by omega⟩) | skip
            case' s7x2 =>
              intro ρ wr hρ hg hK
              simp [readsOf, slotsOf, Op.operands, Call.operands, tmpOf, List.filterMap_cons, List.filterMap_nil, KnownAll, knownOf, srcOf, depsOf, dstOf, Region.binds, nth, Is] at hK
              obtain ⟨hc, hf, hgl⟩ := hρ
              try simp only [wantedBy, dstOf, boolOf, nth, List.getD_cons_zero, List.getD_cons_succ, List.getElem?_cons_zero, List.getElem?_cons_succ, Option.bind_some, if_true, hK, BEq.rfl]
            case s7x2 =>
              obtain ⟨k0, k1⟩ := hK
              have hcs : wr.heap[bt]? = some (.cells (rowE E N).toArray 5 (0, 0)) := by
                rcases hg.2 bt rfl with h | ⟨_, h⟩
                · exact Eq.trans h HBk.out
                · exact h
              have hr := run_copy_none (P := Tryd.prog) wr 25 25 3 5 (some ⟨bt, 0, none⟩) (some ⟨b, off, none⟩) 0 0 0 0 Tryd.underlying25 (by kernel_rfl) rfl
              simp only [execOp, resolve, invoke, builtin, Sem.run_bind, Sem.run_pure, Result.andThen_ok, List.map_toArray, List.map_cons, List.map_nil, k0, k1]
              rw [hr]
              exact ⟨Once.refl _, rfl, fun g hg' => by cases hg'; exact hcs⟩
            case s8x2 =>
              rw [hK.2.1]
              go_simp
              exact congrArg (Value.int _) (by rw [IntKind.wrap_i64]; omega)
            case finx2 =>
              intro w1 val hg hH
              simp only [Holds, Is, Nat.zero_add, Nat.reduceAdd] at hH
              obtain ⟨h0, h1, h2, h3, h4, h5, h6, h7, h8, h9, _⟩ := hH
              simp only [List.take_succ_cons, List.take_zero, List.drop_succ_cons, List.drop_zero, putAll, h0, h1, h2, h3, h4, h5, h6, h8, h9, Nat.zero_add, Nat.reduceAdd]
              simp only [h7.1]
              have hb9 : Blk w1 bt 5 (rowE E N) := h7.2 bt rfl
              have hG9 := HG.out.grown hg.1 (fun k hk => by cases hk; rw [HBT.out]; exact Nat.le_refl _)
              have HB9 := Lib.hid hb9; have HG9 := Lib.hid hG9
              clear hb9 hG9 h7 hg HBk HG
              go_simp
              go_wp2
              go_ret
              refine ⟨some ⟨bt, 0, none⟩, N, by rw [HN.out]; rfl, ?_, HG9.out⟩
              rw [HN.out, HE2.out]
              have h9 := HB9.out
              rw [← HNX.out, rowE_all] at h9
              exact Owns.of_blk h9 (by rw [HBT.out]; exact Nat.le_refl _) (by rw [bv_length]; exact HNX.out) (by unfold maxLen; omega)
          · go_wp2
            refine region_store_once (some bt) (some (.cells (rowE E N).toArray 5 (0, 0))) (some (.cells (rowE E N).toArray 5 (0, 0))) _ [Is (.int .i64 (N : Int)), Is (.slice (some ⟨bt, 0, none⟩) N N), Is (.int .i64 (N : Int)), Is (.slice (some ⟨bt, 0, none⟩) 0 0), Is (.slice (some ⟨b, off, none⟩) l.length cap), Is (.int .i64 (l.length : Int)), Is (.slice (some ⟨b, off + l.length, none⟩) 0 (cap - l.length)), CopiedB (.int .i64 0) (some bt) (some (.cells (rowE E N).toArray 5 (0, 0))), Is (.int .i64 (N : Int)), Is (.int .i64 (N : Int))] (by kernel_rfl) (by kernel_rfl) (by kernel_rfl) rfl rfl ⟨Is.stable _, Is.stable _, Is.stable _, Is.stable _, Is.stable _, Is.stable _, Is.stable _, CopiedB.stable, Is.stable _, Is.stable _, trivial⟩ ⟨?s0x3, ?s1x3, ?s2x3, ?s3x3, ?s4x3, ?s5x3, ?s6x3, ?s7x3, ?s8x3, ?s9x3, trivial⟩ ?finx3
            case' s0x3 | s1x3 | s2x3 | s3x3 | s4x3 | s5x3 | s6x3 | s8x3 | s9x3 =>
              intro ρ wr hρ hg hK
              simp [readsOf, slotsOf, Op.operands, Call.operands, tmpOf, List.filterMap_cons, List.filterMap_nil, KnownAll, knownOf, srcOf, depsOf, dstOf, Region.binds, nth, Is] at hK
              obtain ⟨hc, hf, hgl⟩ := hρ
              try simp only [wantedBy, dstOf, boolOf, nth, List.getD_cons_zero, List.getD_cons_succ, List.getElem?_cons_zero, List.getElem?_cons_succ, Option.bind_some, if_true, hK, BEq.rfl]
              try go_simp
              first | exact rfl | (rw [if_pos (by omega)]; exact is_here rfl) | (rw [dif_pos (by omega)]; exact is_here rfl) | exact congrArg (Value.int _) (IntWalk.i64_in _ ⟨by omega, by omega⟩) | skip
            case' s7x3 =>
              intro ρ wr hρ hg hK
              simp [readsOf, slotsOf, Op.operands, Call.operands, tmpOf, List.filterMap_cons, List.filterMap_nil, KnownAll, knownOf, srcOf, depsOf, dstOf, Region.binds, nth, Is] at hK
              obtain ⟨hc, hf, hgl⟩ := hρ
              try simp only [wantedBy, dstOf, boolOf, nth, List.getD_cons_zero, List.getD_cons_succ, List.getElem?_cons_zero, List.getElem?_cons_succ, Option.bind_some, if_true, hK, BEq.rfl]
            case s7x3 =>
              obtain ⟨k0, k1⟩ := hK
              have hcs : wr.heap[bt]? = some (.cells (rowE E N).toArray 5 (0, 0)) := by
                rcases hg.2 bt rfl with h | ⟨_, h⟩
                · exact Eq.trans h HBk.out
                · exact h
              have hr := run_copy_none (P := Tryd.prog) wr 25 25 3 5 (some ⟨bt, 0, none⟩) (some ⟨b, off + l.length, none⟩) 0 0 0 (cap - l.length) Tryd.underlying25 (by kernel_rfl) rfl
              simp only [execOp, resolve, invoke, builtin, Sem.run_bind, Sem.run_pure, Result.andThen_ok, List.map_toArray, List.map_cons, List.map_nil, k0, k1]
              rw [hr]
              exact ⟨Once.refl _, rfl, fun g hg' => by cases hg'; exact hcs⟩
            case s8x3 =>
              rw [hK.2.1]
              go_simp
              exact congrArg (Value.int _) (by rw [IntKind.wrap_i64]; omega)
            case finx3 =>
              intro w1 val hg hH
              simp only [Holds, Is, Nat.zero_add, Nat.reduceAdd] at hH
              obtain ⟨h0, h1, h2, h3, h4, h5, h6, h7, h8, h9, _⟩ := hH
              simp only [List.take_succ_cons, List.take_zero, List.drop_succ_cons, List.drop_zero, putAll, h0, h1, h2, h3, h4, h5, h6, h8, h9, Nat.zero_add, Nat.reduceAdd]
              simp only [h7.1]
              have hb9 : Blk w1 bt 5 (rowE E N) := h7.2 bt rfl
              have hG9 := HG.out.grown hg.1 (fun k hk => by cases hk; rw [HBT.out]; exact Nat.le_refl _)
              have HB9 := Lib.hid hb9; have HG9 := Lib.hid hG9
              clear hb9 hG9 h7 hg HBk HG
              go_simp
              go_wp2
              go_ret
              refine ⟨some ⟨bt, 0, none⟩, N, by rw [HN.out]; rfl, ?_, HG9.out⟩
              rw [HN.out, HE2.out]
              have h9 := HB9.out
              rw [← HNX.out, rowE_all] at h9
              exact Owns.of_blk h9 (by rw [HBT.out]; exact Nat.le_refl _) (by rw [bv_length]; exact HNX.out) (by unfold maxLen; omega)
end Go.Proofs.YtnjnehegfdimaaaDoor
