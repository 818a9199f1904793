/- A list is made in a pool whose slabs have 2048 bytes or more. No condition. -/
import Derived.Test.YtnafhjgfkofkbaaBunA
import Derived.ShutString
import Derived.ChangeOld
import Derived.SliceStrings
import Derived.SizedLaws
import Derived.Test.YtnafhjgfkofkbaaBunG
/- How the arguments of a statement's function are opened. No program is in sight here. -/
namespace Go.Proofs.Ytnafhjgfkofkbaa
set_option linter.unusedVariables false
set_option linter.unusedSimpArgs false
open Go.ChangeShapes Go.WideShapes Go.ChangeAt Go.RowKit
section
variable {H : Type} {P : Program} {w : World} {enc : TypeId × Value → H}

theorem wf_bounds {k : IntKind} {n : Int} (h : (Lit.int k n).wf = true) : k.min ≤ n ∧ n ≤ k.max := by
  simpa [Lit.wf] using h
theorem bounds_i64 {n : Int} (h : (Lit.int .i64 n).wf = true) : -9223372036854775808 ≤ n ∧ n ≤ 9223372036854775807 := wf_bounds h
theorem pick_u32 {n : Int} (h : (Lit.int .u32 n).wf = true) : ∃ x : BitVec 32, n = U x := by
  have hb := wf_bounds h
  have h1 : (0 : Int) ≤ n := hb.1
  have h2 : n ≤ 4294967295 := hb.2
  obtain ⟨m, rfl⟩ := Int.eq_ofNat_of_zero_le h1
  exact ⟨BitVec.ofNat 32 m, U_lit m rfl (by omega)⟩
theorem pick_u64 {n : Int} (h : (Lit.int .u64 n).wf = true) : ∃ m : Nat, n = (m : Int) ∧ m < 18446744073709551616 := by
  have hb := wf_bounds h
  have h1 : (0 : Int) ≤ n := hb.1
  have h2 : n ≤ 18446744073709551615 := hb.2
  obtain ⟨m, rfl⟩ := Int.eq_ofNat_of_zero_le h1
  exact ⟨m, rfl, by omega⟩
theorem pick_u8 {n : Int} (h : (Lit.int .u8 n).wf = true) : ∃ x : UInt8, n = (x.toNat : Int) := by
  have hb := wf_bounds h
  have h1 : (0 : Int) ≤ n := hb.1
  have h2 : n ≤ 255 := hb.2
  obtain ⟨m, rfl⟩ := Int.eq_ofNat_of_zero_le h1
  exact ⟨UInt8.ofNat m, by rw [UInt8.toNat_ofNat', Nat.mod_eq_of_lt (by omega)]⟩

/-- a slice of numbers that came in -/
theorem open_nums {base : Nat} {spare : Nat → Bool} {held : Bool} {r : Reach} {b0 : Nat} {t e : TypeId} {k : IntKind} {v : Value} {d : DataW H} {ps : List MemPlace} (ht : P.underlying t = some (.slice e)) (he : P.underlying e = some (.int k)) (hc : P.cellsOf e = 1)
    (hval : Value.okWide P w r b0 t v) (hd : DataW.Trod enc P w base spare held t v d ps) :
    ∃ ad len cap, ∃ zs : List Int, v = .slice ad len cap ∧ zs.length = len ∧ len ≤ cap ∧ cap ≤ maxLen ∧ Row w ad (zs.map (Value.int k)) ∧ (∀ n ∈ zs, (Lit.int k n).wf = true) ∧
      ((d = .nil ∧ len = 0) ∨ ∃ x y, d = .slice x y ∧ len ≤ x.length) := by
  obtain ⟨ad, len, cap, rfl⟩ := okWide_slice ht hval
  obtain ⟨fuel, hf⟩ := hd
  rcases open_ints ht he hc hf with ⟨hcs, hx⟩ | ⟨x, l, c, zs, hcs, _, hl, hm, hz, hx, hcell, hwz⟩
  · simp [Value.cells] at hcs
    obtain ⟨e1, e2, e3⟩ := hcs
    subst e1 e2 e3
    simp only [Prod.mk.injEq] at hx
    exact ⟨none, 0, 0, [], rfl, rfl, Nat.le_refl _, Nat.zero_le _, Row.nil _ _, by simp, .inl ⟨hx.1, rfl⟩⟩
  · simp [Value.cells] at hcs
    obtain ⟨e1, e2, e3⟩ := hcs
    subst e1 e2 e3
    have hzl : len ≤ zs.length := by rw [hz]; split <;> omega
    have htl : (zs.take len).length = len := by simp; omega
    simp only [Prod.mk.injEq] at hx
    refine ⟨some x, len, cap, zs.take len, rfl, htl, hl, hm, ?_, fun n hn => hwz n (List.mem_of_mem_take hn), .inr ⟨_, _, hx.1, by simp [lits]; omega⟩⟩
    intro i u hi
    have hil : i < len := by
      have := (List.getElem?_eq_some_iff.1 hi).1
      rw [List.length_map, htl] at this; exact this
    obtain ⟨b, off, rfl, hcc⟩ := ints_at hcell (by omega)
    refine ⟨b, off, rfl, ?_⟩
    rw [hcc i (by omega)]
    rw [List.getElem?_map, List.getElem?_take, if_pos hil] at hi
    rw [List.getD_eq_getElem?_getD]
    have : i < zs.length := by omega
    simp [this] at hi ⊢
    exact hi
/-- a slice of bytes that came in -/
theorem open_bytes {base : Nat} {spare : Nat → Bool} {held : Bool} {r : Reach} {b0 : Nat} {t e : TypeId} {v : Value} {d : DataW H} {ps : List MemPlace} (ht : P.underlying t = some (.slice e)) (he : P.underlying e = some (.int .u8)) (hc : P.cellsOf e = 1)
    (hval : Value.okWide P w r b0 t v) (hd : DataW.Trod enc P w base spare held t v d ps) :
    ∃ ad len cap, ∃ l : List UInt8, v = .slice ad len cap ∧ l.length = len ∧ len ≤ cap ∧ cap ≤ maxLen ∧ Bytes w ad l ∧ ((d = .nil ∧ len = 0) ∨ ∃ x y, d = .slice x y ∧ len ≤ x.length) := by
  obtain ⟨ad, len, cap, zs, hv, h1, h2, h3, h4, h5, h6⟩ := open_nums ht he hc hval hd
  refine ⟨ad, len, cap, zs.map (fun n => UInt8.ofNat n.toNat), hv, by simpa using h1, h2, h3, ?_, h6⟩
  have : bv (zs.map (fun n => UInt8.ofNat n.toNat)) = zs.map (Value.int .u8) := by
    unfold bv
    rw [List.map_map]
    apply List.map_congr_left
    intro n hn
    obtain ⟨x, rfl⟩ := pick_u8 (h5 n hn)
    simp
  exact Row.bytes (by rw [this]; exact h4)
theorem sized_len {ts : List TypeId} {ds : List (DataW H)} (h : (DataW.weightsEach P ts ds).all (· ≤ reachBytes) = true) {j : Nat} {t e : TypeId} {d : DataW H} {len bytes : Nat} (ht : ts[j]? = some t) (hd : ds[j]? = some d) (hu : P.underlying t = some (.slice e)) (hb : P.bytesOf e = bytes)
    (hc : (d = .nil ∧ len = 0) ∨ ∃ x y, d = .slice x y ∧ len ≤ x.length) : len * bytes ≤ 140737488351232 := by
  rcases hc with ⟨_, rfl⟩ | ⟨x, y, rfl, hl⟩
  · simp
  · have h1 := sized_slice h ht hd hu
    rw [hb] at h1
    exact Nat.le_trans (Nat.mul_le_mul_right _ (by omega)) h1
theorem str_eta (t : ByteArray) : str t.data.toList = t := by
  apply ByteArray.ext
  simp [str]
theorem to_str (t : ByteArray) : ∃ l, t = str l := ⟨t.data.toList, (str_eta t).symm⟩

end
end Go.Proofs.Ytnafhjgfkofkbaa
/- Layer 11 (skip): SkipMakes answers true. -/
namespace Go.Proofs.Ytnafhjgfkofkbaa
set_option linter.unusedVariables false
set_option linter.unusedSimpArgs false
open Go.RowKit Ikey Varint
def fieldP (n : Nat) : PoolF := makeAt (newF 2048 n) 0
theorem fieldP_make (a n : Nat) : makeR (newF a n) = (0, 0, makeAt (newF a n) 0) := by
  have h : makeF (newF a n) = some 0 := makeF_is (by decide) (by rw [landAt_new]; rfl) (fun j hj => absurd hj (Nat.not_lt_zero j))
  unfold makeR
  rw [h]
theorem gen_new (a n : Nat) : ∀ i, i < 256 → (landAt (newF a n) i).gen ≤ 1000000000 := fun i _ => by rw [landAt_new]; decide
theorem landAt_field (n j : Nat) : landAt (fieldP n) j = if 0 = j then ⟨true, 1, [], 0⟩ else noLand := by
  unfold fieldP makeAt
  rw [landAt_set _ _ _ _ (by show 0 < (List.replicate 256 noLand).length; rw [List.length_replicate]; decide), landAt_new]
  split <;> first | rfl | exact landAt_new _ _ _
theorem countF_field (n : Nat) : countF (fieldP n) = n := by
  show ((List.replicate n false).filter (!·)).length = n
  rw [List.filter_replicate]
  simp
theorem field_st (n : Nat) : SkSt (fieldP n) 0 0 (fun _ => (0, 0)) [] :=
  ⟨by decide, by rw [landAt_field]; rfl, Nat.le_refl _, fun _ _ => rfl, fun x hx => by simp at hx, fun a x b e => by simp at e, List.Pairwise.nil, List.Pairwise.nil⟩
set_option maxRecDepth 100000 in
set_option maxHeartbeats 1000000 in
theorem field_any (w0 w : World) (k : Gr w0 w) (n : Nat) (h1 : 1 ≤ n) (h2 : n ≤ 2048) :
    Calls Try.prog 11 #[.int .i64 (n : Int)] w fun e w' => ∃ g gl S, e = .returned (.tuple #[.pointer (some ⟨g, 0, none⟩), .pointer (some ⟨gl, 0, none⟩), .bool true]) ∧ Gr w w' ∧ Sl w0 w' S g gl (fieldP n) (newL 0) [] ∧ (∀ j, S j → w.heap.size ≤ j) ∧ w.heap.size ≤ gl := by
  have HN := Lib.hid (show Calls Try.prog 9 #[.int .i64 2048, .int .i64 (n : Int)] w fun e w' => ∃ g S, e = .returned (.tuple #[.pointer (some ⟨g, 0, none⟩), .int .i64 0]) ∧ Gr w w' ∧ w.heap.size ≤ g ∧ Pl w0 w' S g (newF 2048 n) ∧ ∀ j, S j → w.heap.size ≤ j from New_pl k 2048 n (by decide) (by decide) (by decide) h1 (by omega) (by omega))
  have HK := Lib.hid k
  clear k
  go_enter Try.func11, Try.ntmps11
  go_wp2_with (first
    | (go_at_call 9; go_must (refine HN.out.mono ?_); rintro e w2 ⟨g, S, rfl, k2, hg, P2, b2⟩
       have P := Lib.hid P2; have K2 := Lib.hid k2; have HB := Lib.hid b2
       clear P2 k2 b2 hg)
    | (go_at_call 10; go_must (refine (New_list _ S g (newF 2048 n) (fieldP n) 0 P.out.pool P.out.ok (gen_new 2048 n) (Nat.le_refl _) (fieldP_make 2048 n)).mono ?_); rintro e w3 ⟨gl, rfl, m3, hb, hl, hn⟩)
    | fail)
  refine bodyPost_ret (v := .tuple #[.pointer (some ⟨g, 0, none⟩), .pointer (some ⟨gl, 0, none⟩), .bool true]) (by simp [results, Try.results11, go_sem]) rfl ⟨g, gl, S, rfl, ?_⟩
  have hg3 : Gr w w3 := m3.chg.gr K2.out HB.out
  have hs := K2.out.size
  refine ⟨hg3, ⟨⟨m3.pool, ?_, hb, hn⟩, field_st n, fun x hx => by simp at hx, rfl, rfl, rfl, HK.out.trans hg3, fun j hj => Nat.le_trans HK.out.size (HB.out j hj), Nat.le_trans HK.out.size (Nat.le_trans hs hl)⟩, HB.out, Nat.le_trans hs hl⟩
  have := make_ok2 P.out.ok
  rw [fieldP_make 2048 n] at this
  exact this
def cA1 : Ce := ⟨[97], 1, 1, [121]⟩
def cA2 : Ce := ⟨[97], 2, 1, [120]⟩
theorem ins1 : insF (cellsN []) false [97] 1 1 [121] 1 = (0, [cA1]) := by kernel_rfl
theorem ins2 : insF [cA1] false [97] 2 1 [120] 3 = (0, [cA2, cA1]) := by kernel_rfl
theorem get1 : getC [cA2, cA1] [97] 9 = some cA2 := by kernel_rfl
theorem get2 : getC [cA2, cA1] [97] 1 = some cA1 := by kernel_rfl
set_option maxRecDepth 100000 in
set_option maxHeartbeats 4000000 in
theorem skips_any (w : World) : Calls Try.prog 8 #[] w fun e w' => e = .returned (.bool true) ∧ Gr w w' := by
  have HF := Lib.hid (show Calls Try.prog 11 #[.int .i64 2] w fun e w' => ∃ g gl S, e = .returned (.tuple #[.pointer (some ⟨g, 0, none⟩), .pointer (some ⟨gl, 0, none⟩), .bool true]) ∧ Gr w w' ∧ Sl w w' S g gl (fieldP 2) (newL 0) [] ∧ (∀ j, S j → w.heap.size ≤ j) ∧ w.heap.size ≤ gl from field_any w w (Gr.refl w) 2 (by decide) (by decide))
  go_enter Try.func8, Try.ntmps8
  go_wp2_with (first
    | (go_at_call 11; go_must (refine HF.out.mono ?_); rintro e w2 ⟨g, gl, S, rfl, k2, s2, b2, l2⟩
       have HI := Lib.hid (show Calls Try.prog 12 #[.pointer (some ⟨gl, 0, none⟩), .agg #[.string ⟨#[97]⟩, .int .i64 1, .int .i64 1, .string ⟨#[121]⟩], .int .i64 1] w2 _ from Insert_sl s2 [97] 1 1 [121] 1 (by decide) (by rw [countF_field]; decide) (by decide))
       rw [show (newL 0).fz = false from rfl, ins1] at HI
       clear k2 s2 b2 l2)
    | (go_at_call 12; (with_reducible refine HI.out.mono ?_); rintro e w3 ⟨rfl, p1, S1, L1, N1, s1, c1, l1, _, z1, _, _, n1, _⟩
       have HI2 := Lib.hid (show Calls Try.prog 12 #[.pointer (some ⟨gl, 0, none⟩), .agg #[.string ⟨#[97]⟩, .int .i64 2, .int .i64 1, .string ⟨#[120]⟩], .int .i64 3] w3 _ from Insert_sl s1 [97] 2 1 [120] 3 (by decide) (by rw [countF_field] at n1; omega) (by have : ([] : List Nd).length = 0 := rfl; omega))
       rw [z1, show cellsN N1 = [cA1] from c1, ins2] at HI2
       clear HI s1 c1 l1 n1)
    | (go_at_call 12; (with_reducible refine HI2.out.mono ?_); rintro e w4 ⟨rfl, p2, S2, L2, N2, s2, c2, l2, _, z2, _, _, n2, _⟩
       have SL := Lib.hid s2
       have hC := s2.cnt
       have hW := s2.wt
       have c2' : cellsN N2 = [cA2, cA1] := c2
       have hn : N2.length = 2 := by have := congrArg List.length c2'; simpa [cellsN] using this
       have HG := Lib.hid (show ∀ w', Gr w4 w' → Calls Try.prog 27 #[.pointer (some ⟨gl, 0, none⟩), .string ⟨#[97]⟩, .int .i64 9] w' (fun e w2 => e = .returned (.tuple #[.agg #[.string ⟨#[97]⟩, .int .i64 2, .int .i64 1, .string ⟨#[120]⟩], .int .i64 0]) ∧ Gr w' w2) from fun w' hg => by
         have := Get_sl (s2.more hg) [97] 9
         rw [c2', get1] at this
         exact this)
       have HG2 := Lib.hid (show ∀ w', Gr w4 w' → Calls Try.prog 27 #[.pointer (some ⟨gl, 0, none⟩), .string ⟨#[97]⟩, .int .i64 1] w' (fun e w2 => e = .returned (.tuple #[.agg #[.string ⟨#[97]⟩, .int .i64 1, .int .i64 1, .string ⟨#[121]⟩], .int .i64 0]) ∧ Gr w' w2) from fun w' hg => by
         have := Get_sl (s2.more hg) [97] 1
         rw [c2', get2] at this
         exact this)
       rw [c2'] at hW
       rw [hn] at hC
       have HC := Lib.hid (show ∀ w', Gr w4 w' → Calls Try.prog 25 #[.pointer (some ⟨gl, 0, none⟩)] w' (fun e w2 => e = .returned (.int .i64 2) ∧ w' = w2) from fun w' hg => by
         have := Count_any w' g gl L2 (s2.more hg).sk.blk
         rw [s2.fd, hC] at this; exact this)
       have HW := Lib.hid (show ∀ w', Gr w4 w' → Calls Try.prog 26 #[.pointer (some ⟨gl, 0, none⟩)] w' (fun e w2 => e = .returned (.int .i64 20) ∧ w' = w2) from fun w' hg => by
         have := Weight_any w' g gl L2 (s2.more hg).sk.blk
         rw [s2.fd, hW] at this; exact this)
       clear HI2 s2 c2 l2 z2 n2 hC hW c2' hn)
    | (go_at_call 27; (with_reducible refine (HG.out _ (Gr.refl _)).mono ?_); rintro e w5 ⟨rfl, g5⟩; clear HG
       have G6 := Lib.hid (g5.trans (Gr.alloc w5 (.cells #[.string ⟨#[97]⟩, .int .i64 2, .int .i64 1, .string ⟨#[120]⟩] 41)))
       have A6 := Lib.hid (Blk.new w5 41 #[.string ⟨#[97]⟩, .int .i64 2, .int .i64 1, .string ⟨#[120]⟩]))
    | (go_at_call 27; (with_reducible refine (HG2.out _ G6.out).mono ?_); rintro e w7 ⟨rfl, g7⟩; clear HG2
       have G8 := Lib.hid (G6.out.trans (g7.trans (Gr.alloc w7 (.cells #[.string ⟨#[97]⟩, .int .i64 1, .int .i64 1, .string ⟨#[121]⟩] 41))))
       obtain ⟨a0, a1, a2, a3, _⟩ := (A6.out.gr (g7.trans (Gr.alloc w7 (.cells #[.string ⟨#[97]⟩, .int .i64 1, .int .i64 1, .string ⟨#[121]⟩] 41)))).four
       have a3' := a3
       clear a0 a1 a2 a3)
    | (go_at_call 25; go_must (refine (HC.out _ G8.out).mono ?_); rintro e w9 ⟨rfl, rfl⟩)
    | (go_at_call 26; go_must (refine (HW.out _ G8.out).mono ?_); rintro e w9 ⟨rfl, rfl⟩)
    | fail)
  go_ret
  exact ⟨rfl, SL.out.gr.trans G8.out⟩
set_option maxRecDepth 100000 in
set_option maxHeartbeats 4000000 in
theorem SkipMakes_any (size : Int) (w : World) : Calls Try.prog 3 #[.int .i64 size] w fun e w' => e = .returned (.bool true) ∧ Gr w w' := by
  cases hk : newOk size 2 with
  | false =>
    have HB := Lib.hid (fun w => New_bad w size 2 hk)
    clear hk
    go_enter Try.func3, Try.ntmps3
    go_wp2_with (first
      | (go_at_call 8; go_must (refine (skips_any _).mono ?_); rintro e w2 ⟨rfl, g2⟩)
      | (go_at_call 9; go_must (refine (HB.out _).mono ?_); rintro e w3 ⟨rfl, g3⟩)
      | fail)
    subst g3
    go_ret
    exact ⟨rfl, g2⟩
  | true =>
    unfold newOk at hk
    simp only [Bool.and_eq_true, decide_eq_true_eq] at hk
    obtain ⟨⟨⟨⟨⟨h1, h2⟩, h3⟩, _⟩, _⟩, h6⟩ := hk
    obtain ⟨a, rfl⟩ : ∃ a : Nat, size = (a : Int) := ⟨size.toNat, by omega⟩
    have HN := Lib.hid (show ∀ w2, Gr w w2 → Calls Try.prog 9 #[.int .i64 (a : Int), .int .i64 2] w2 fun e w' => ∃ g S, e = .returned (.tuple #[.pointer (some ⟨g, 0, none⟩), .int .i64 0]) ∧ Gr w2 w' ∧ w2.heap.size ≤ g ∧ Pl w w' S g (newF a 2) ∧ ∀ j, S j → w2.heap.size ≤ j from fun w2 k => New_pl k a 2 (by omega) (by omega) (by omega) (by decide) (by decide) (by omega))
    by_cases hs : 2048 ≤ a
    · have hsI : (2048 : Int) ≤ (a : Int) := by omega
      have HK := Lib.hid (fun w3 S g (P : Pl w w3 S g (newF a 2)) => New_list w3 S g (newF a 2) (makeAt (newF a 2) 0) 0 P.pool P.ok (gen_new a 2) hs (fieldP_make a 2))
      clear h1 h2 h3 h6
      go_enter Try.func3, Try.ntmps3
      go_wp2_with (first
        | (go_at_call 8; go_must (refine (skips_any _).mono ?_); rintro e w2 ⟨rfl, g2⟩)
        | (go_at_call 9; go_must (refine (HN.out _ g2).mono ?_); rintro e w3 ⟨g, S, rfl, k3, hg, P3, b3⟩; have P := Lib.hid P3; clear P3 b3 hg)
        | (go_at_call 10; (with_reducible refine (HK.out _ _ _ P.out).mono ?_); rintro e w4 ⟨gl, rfl, m4, hb, hl, hn⟩)
        | (go_at_call 10; (with_reducible refine (New_nil _).mono ?_); rintro e w5 ⟨rfl, rfl⟩)
        | fail)
      go_ret
      exact ⟨rfl, m4.chg.gr P.out.gr P.out.base⟩
    · have hsI : (a : Int) < 2048 := by omega
      have hs2 : a < 2048 := by omega
      have hdb : decide ((2048 : Int) ≤ (a : Int)) = false := by simp; omega
      have HK := Lib.hid (fun w3 S g (P : Pl w w3 S g (newF a 2)) => New_small w3 S g (newF a 2) P.pool hs2)
      clear h1 h2 h3 h6 hs
      go_enter Try.func3, Try.ntmps3
      go_wp2_with (first
        | (go_at_call 8; go_must (refine (skips_any _).mono ?_); rintro e w2 ⟨rfl, g2⟩)
        | (go_at_call 9; go_must (refine (HN.out _ g2).mono ?_); rintro e w3 ⟨g, S, rfl, k3, hg, P3, b3⟩; have P := Lib.hid P3; clear P3 b3 hg)
        | (go_at_call 10; (with_reducible refine (HK.out _ _ _ P.out).mono ?_); rintro e w4 ⟨rfl, rfl⟩)
        | (go_at_call 10; (with_reducible refine (New_nil _).mono ?_); rintro e w5 ⟨rfl, rfl⟩)
        | fail)
      go_ret
      exact ⟨rfl, P.out.gr⟩
end Go.Proofs.Ytnafhjgfkofkbaa
namespace Go.Proofs.Ytnafhjgfkofkbaa.skipMakes
set_option linter.unusedSimpArgs false
open Go.ChangeShapes Go.WideShapes Go.ChangeAt Go.RowKit
open Go.ChangeMaps (open_string shut_string)
set_option linter.unusedVariables false
theorem own : ownKnob Try.prog.godebug = none := by kernel_rfl
theorem laidOut : laidOutB Try.prog = true := by kernel_rfl
set_option maxRecDepth 100000 in
theorem contract (H : Type) (enc : TypeId × Value → H) (W : World) (base : Nat) (args : Array Value) (ds gs : List (DataW H)) (before : List MemPlace)
    (hval0 : ∀ (j : Nat) t v, Try.f3.params[j]? = some t → args[j]? = some v → Value.okWide Try.prog W .any base t v)
    (hW : DataW.Whole enc Try.prog Try.f3.params.toList Rows.skipMakesSpec.vars false W args.toList ds gs before)
    (hsz0 : (DataW.weightsEach Try.prog (Try.f3.params.toList ++ Rows.skipMakesSpec.plain.varTypes Try.prog) (ds ++ gs)).all (· ≤ reachBytes) = true) :
    Calls Try.prog 3 args W fun e W' => ∃ v, e = .returned v ∧ Rows.skipMakesSpec.post enc Try.prog Try.f3 false true false false W args v W' := by
  have hval : ∀ (j : Nat) t v, Try.f3.params[j]? = some t → args[j]? = some v → Value.okWide Try.prog W .any base t v := hval0
  have hW' := hW
  obtain ⟨p, q, hA0, hV, rfl, hfz, hnd⟩ := hW
  have hA : DataW.TrodAll enc Try.prog W 0 (fun _ => true) true Try.f3.params.toList args.toList ds p := hA0
  have hsz : (DataW.weightsEach Try.prog (Try.f3.params.toList ++ Rows.skipMakesSpec.plain.varTypes Try.prog) (ds ++ gs)).all (· ≤ reachBytes) = true := hsz0
  rw [Try.params3] at hA hval hsz
  obtain ⟨v0, vs0, d0, ds0, p0, q0, hargs, rfl, rfl, h0, r0⟩ := trodAll_cons hA
  obtain ⟨rfl, rfl, rfl⟩ := trodAll_nil r0
  obtain rfl : args = #[v0] := by cases args; simp_all
  obtain ⟨rfl, rfl⟩ := trodVars_none hV
  obtain ⟨a0, rfl, rfl, rfl, w0⟩ := open_int Try.underlying3 (hval 0 3 v0 rfl rfl) h0
  have hi0 := bounds_i64 w0
  clear hA0 hval0
  refine (SkipMakes_any a0 W).mono fun e W' ⟨he, bel⟩ => ?_
  subst he
  exact ⟨_, rfl, _, _, _, [], _, [], hW', trodAll_mk1 (shut_bool Try.underlying4 _), (trodAll_cons_mk (shut_int Try.underlying3 w0) trodAll_mk0), rfl, bel.frame _, fun h => by cases h⟩
set_option maxRecDepth 100000 in
theorem lifted (os : Os) (started : os.Started) (H : Type) (enc : TypeId × Value → H) :
    ReturnsInHanded {} Try.checked os 3 .any (Rows.skipMakesSpec.pre6 enc Try.prog Try.f3 Rows.skipMakesRow.domain false) (Rows.skipMakesSpec.post enc Try.prog Try.f3 false true false false) := by
  refine returnsInHanded_of_change_sized (C := Try.checked) own started (by kernel_rfl) Try.func3
    (ChangeSpec.witness6 (enc := enc) (C := Try.checked) false ⟨#[], #[.int .i64 0], []⟩ 8 (by kernel_rfl) (by kernel_rfl) (by kernel_rfl) (by kernel_rfl)) ?_
  intro W base args ds gs before hval0 hW hcnd0 hsz0 _
  exact contract H enc W base args ds gs before hval0 hW hsz0
theorem over : Rows.skipMakesRow.holds Try.pinned (OpenSpec.ofChange Rows.skipMakesSpec) :=
  OpenClaim.holds_of_wide 3 Try.f3 rfl rfl rfl rfl rfl rfl rfl ⟨rfl, rfl, rfl, rfl, rfl⟩ rfl rfl rfl rfl rfl (by kernel_rfl) Try.func3 (by kernel_rfl)
    (of_decide_eq_true (by kernel_rfl)) (by unfold Func.isWrapper; first | (rw [if_pos (by decide +kernel)]; kernel_rfl) | (rw [if_neg (by decide +kernel)]; exact ⟨rfl, rfl⟩))
    (fun os started H enc _ => lifted os started H enc)
theorem proved : Rows.SkipMakesSaid := over
#print axioms proved
end Go.Proofs.Ytnafhjgfkofkbaa.skipMakes
