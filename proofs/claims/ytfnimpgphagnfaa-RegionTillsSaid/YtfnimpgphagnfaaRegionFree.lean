/- Layer 1 (region): Free walked. -/
import Derived.Test.YtfnimpgphagnfaaRegionFns
import Derived.Test.YtfnimpgphagnfaaRegionPut
namespace Go.Proofs.Ytfnimpgphagnfaa
set_option linter.unusedVariables false
set_option linter.unusedSimpArgs false
open Go.RowKit
theorem foldl_set_len {α β : Type} (l : List Nat) (x : β) : ∀ (b : List β), (l.foldl (fun bs s => bs.set s x) b).length = b.length := by
  induction l with
  | nil => intro b; rfl
  | cons s t ih => intro b; rw [List.foldl_cons, ih, List.length_set]
theorem freeSlabs_len (p : PoolF) (l : List Nat) : (freeSlabs p l).bytes.length = p.bytes.length ∧ (freeSlabs p l).taken.length = p.taken.length := ⟨foldl_set_len (α := Nat) l _ _, foldl_set_len (α := Nat) l _ _⟩
theorem freeSlabs_snoc (p : PoolF) (l : List Nat) (s : Nat) : freeSlabs p (l ++ [s]) = setTaken (setBytes (freeSlabs p l) s (List.replicate p.size 0xDD)) s false := by
  unfold freeSlabs setTaken setBytes
  simp only [List.foldl_append, List.foldl_cons, List.foldl_nil]
theorem setBytes_twice (p : PoolF) (s : Nat) (a b : List UInt8) : setBytes (setBytes p s a) s b = setBytes p s b := by unfold setBytes; simp only [List.set_set]
theorem poison_step (x : UInt8) (l : List UInt8) (j : Nat) (hj : j < l.length) : (List.replicate j x ++ l.drop j).set j x = List.replicate (j + 1) x ++ l.drop (j + 1) := by
  rw [List.set_append_right _ _ (by simp), List.length_replicate, Nat.sub_self, List.replicate_succ', List.append_assoc]
  congr 1
  rw [List.drop_eq_getElem_cons hj, List.set_cons_zero]
  rfl
theorem bytesAt_foldl_len (sz : Nat) (x : List UInt8) (hx : x.length = sz) : ∀ (l : List Nat) (b : List (List UInt8)), (∀ y ∈ b, y.length = sz) → ∀ y ∈ l.foldl (fun bs s => bs.set s x) b, y.length = sz
  | [], _, h => h
  | s :: t, b, h => by
    rw [List.foldl_cons]
    refine bytesAt_foldl_len sz x hx t _ fun y hy => ?_
    rcases List.mem_or_eq_of_mem_set hy with h1 | h1
    · exact h y h1
    · rw [h1]; exact hx
set_option maxRecDepth 100000 in
set_option maxHeartbeats 4000000 in
theorem Free_any (w : World) (S : Nat → Prop) (g : Nat) (p : PoolF) (r : Int) (h : PoolAt w S g p) (hp : PoolOk p) :
    Calls Try.prog 17 #[.pointer (some ⟨g, 0, none⟩), .int .i64 r] w fun e w' => e = .returned (.int .i64 ((freeF p r).1 : Int)) ∧ Moved S g (freeF p r).2 w w' S := by
  have HLA := Lib.hid (land_any w S g p r h)
  have HPO := Lib.hid h
  cases hl : landF p r with
  | none =>
    rw [hl] at HLA
    have he : freeF p r = (7, p) := by unfold freeF; rw [hl]
    rw [he]
    clear h hp he hl
    go_enter Try.func17, Try.ntmps17
    go_wp2_with (first
      | (go_at_call 34; refine HLA.out.mono ?_; rintro e w1 ⟨rfl, rfl⟩)
      | fail)
    go_ret
    exact ⟨rfl, Moved.refl HPO.out⟩
  | some i =>
    rw [hl] at HLA
    obtain ⟨rfl, hi, _⟩ := landF_some hl
    obtain ⟨ads, cs, adt, ct, A, C, bd, hx⟩ := h
    obtain ⟨L, hL⟩ : ∃ L, L = (landAt p i).slabs := ⟨_, rfl⟩
    have he : freeF p (i : Int) = (0, setLand (freeSlabs p L) i ⟨false, (landAt p i).gen, [], 0⟩) := by unfold freeF; rw [hl, hL]; rfl
    rw [he]
    obtain ⟨_, l1, l2, _⟩ := hx.lcell hi
    have hlt : ∀ s ∈ L, s < p.bytes.length := by rw [hL]; exact (hp.ld i hi).lt
    have hLl : L.length ≤ 4096 := by rw [hL]; exact Nat.le_trans (hp.ld i hi).len hp.n2
    have hs1 := hp.s1
    have hs2 := hp.s2
    have hn2 := hp.n2
    have htk := hp.tk
    have HBL := Lib.hid hp.bl
    have hln := hp.ln
    have H0 := Lib.hid (show PX w S g (freeSlabs p (L.take 0)) ads cs adt ct A C bd from hx)
    rw [← hL] at l2
    have HL := Lib.hid hL
    clear hx hp he hl hL
    go_enter Try.func17, Try.ntmps17
    go_wp2_with (first
      | (go_at_call 34; refine HLA.out.mono ?_; rintro e w1 ⟨rfl, rfl⟩)
      | fail)
    clear l1 l2
    go_loopw [21] (fun v wr => ∃ k : Nat, k ≤ L.length ∧ v = .int .i64 (k : Int) ∧ PX wr S g (freeSlabs p (L.take k)) ads cs adt ct A C bd ∧ Chg S w wr) (fun v _ => L.length - (intOf v).toNat)
    case atStart => exact ⟨0, Nat.zero_le _, rfl, H0.out, Chg.refl _⟩
    case round =>
      obtain ⟨k, hk, rfl, hx, hc⟩ := hrel
      by_cases hkl : k < L.length
      · obtain ⟨s, hs⟩ : ∃ s, L[k]? = some s := ⟨_, List.getElem?_eq_getElem hkl⟩
        have hsb : s < p.bytes.length := hlt s (List.mem_of_getElem? hs)
        have hst : s < p.taken.length := by omega
        obtain ⟨hfb, hft⟩ := freeSlabs_len p (L.take k)
        have htake : L.take (k + 1) = L.take k ++ [s] := by rw [List.take_add_one, hs]; rfl
        have HT := Lib.hid (show freeSlabs p (L.take (k + 1)) = setTaken (setBytes (freeSlabs p (L.take k)) s (List.replicate p.size 0xDD)) s false by rw [htake, freeSlabs_snoc])
        have hbs : (bytesAt (freeSlabs p (L.take k)) s).length = p.size := by
          unfold bytesAt
          rw [List.getD_eq_getElem?_getD, List.getElem?_eq_getElem (by rw [hfb]; exact hsb)]
          exact bytesAt_foldl_len p.size _ (by simp) _ _ HBL.out _ (List.getElem_mem _)
        have hlo := hx.land i hi
        have hla : (landAt (freeSlabs p (L.take k)) i).slabs = L := HL.out.symm
        rw [hla] at hlo
        obtain ⟨ba, hba, _, za⟩ := hlo.at (iv_get L k s hs)
        obtain ⟨br, hbr, _, zr⟩ := hx.row.at (slabV_get (bd := bd) (size := p.size) (by rw [hfb]; exact hsb))
        obtain ⟨_, c1, _⟩ := hx.head
        rw [hfb, hbr] at c1
        have HX := Lib.hid hx
        have HC := Lib.hid hc
        have HFB := Lib.hid hfb
        have HFT := Lib.hid hft
        have HBS := Lib.hid hbs
        clear hx hc hlo hla hs htake hfb hft hbs
        have HSZ := Lib.hid (show (freeSlabs p (L.take k)).size = p.size from rfl)
        generalize freeSlabs p (L.take k) = P at *
        go_wp2
        obtain ⟨wA, hwA⟩ : ∃ wA, wA = wr := ⟨_, rfl⟩
        have HD := Lib.hid (show bytesAt P s = List.replicate 0 0xDD ++ (bytesAt P s).drop 0 by simp)
        subst hwA
        go_loopw [33] (fun v wr => ∃ j : Nat, j ≤ p.size ∧ v = .int .i64 (j : Int) ∧ PX wr S g (setBytes P s (List.replicate j 0xDD ++ (bytesAt P s).drop j)) ads cs adt ct A C bd ∧ Chg S w wr) (fun v _ => p.size - (intOf v).toNat)
        case atStart =>
          refine ⟨0, Nat.zero_le _, rfl, ?_, HC.out⟩
          have e : setBytes P s (List.replicate 0 0xDD ++ (bytesAt P s).drop 0) = P := by
            rw [← HD.out]
            have hb : P.bytes.set s (bytesAt P s) = P.bytes := by
              unfold bytesAt
              rw [List.getD_eq_getElem?_getD, List.getElem?_eq_getElem (by rw [HFB.out]; exact hsb)]
              simp
            unfold setBytes
            rw [hb]
          rw [e]
          exact HX.out
        case round =>
          obtain ⟨j, hj, rfl, hx2, hc2⟩ := hrel
          have hlb : (setBytes P s (List.replicate j 0xDD ++ (bytesAt P s).drop j)).bytes.length = p.bytes.length := by show (P.bytes.set s _).length = _; rw [List.length_set]; exact HFB.out
          obtain ⟨_, d1, d2⟩ := hx2.head
          have hrow2 := hx2.row
          rw [show (setBytes P s (List.replicate j 0xDD ++ (bytesAt P s).drop j)).size = p.size from HSZ.out, hlb] at hrow2
          obtain ⟨br2, hbr2, _, zr2⟩ := hrow2.at (slabV_get (bd := bd) (size := p.size) hsb)
          rw [hlb, hbr2] at d1
          by_cases hjl : j < p.size
          · have hpl : (List.replicate j 0xDD ++ (bytesAt P s).drop j).length = p.size := by
              have := HBS.out
              simp; omega
            have hbl := hx2.slab s (by rw [hlb]; exact hsb)
            rw [bytesAt_set _ _ _ _ (by rw [HFB.out]; exact hsb), if_pos rfl] at hbl
            obtain ⟨xv, hcell⟩ : ∃ xv : UInt8, wr.cell? ⟨bd s, j, none⟩ = some (.int .u8 (xv.toNat : Int)) := ⟨_, hbl.cell (bv_get _ j (by rw [hpl]; exact hjl))⟩
            have hfz := hbl.frozen j
            have HPS := Lib.hid (show PX (wr.setCell ⟨bd s, j, none⟩ (.int .u8 221)) S g (setBytes P s (List.replicate (j + 1) 0xDD ++ (bytesAt P s).drop (j + 1))) ads cs adt ct A C bd by
              have h1 := hbl.set_ j (.int .u8 221)
              have h2 := hx2.put_bytes (s := s) (by rw [hlb]; exact hsb) (List.replicate (j + 1) 0xDD ++ (bytesAt P s).drop (j + 1)) (w' := wr.setCell ⟨bd s, j, none⟩ (.int .u8 221)) (by
                rw [← poison_step 0xDD _ j (by rw [HBS.out]; exact hjl), ← bv_set]; exact h1) (grown_set _ _ _ _)
              rw [setBytes_twice] at h2
              exact h2)
            have HC2 := Lib.hid (Chg.trans hc2 (Chg.grown (grown_set wr (bd s) j (.int .u8 221)) (hx2.sslab s (by rw [hlb]; exact hsb))) (fun j hj => .inl hj))
            clear hx2 hc2 hlb hpl hbl d2 hrow2
            go_wp2
            go_roundw
            case rel => exact ⟨j + 1, hjl, by go_num, HPS.out, HC2.out⟩
            case measure => simp [intOf]; omega
          · obtain rfl : j = p.size := by omega
            have hbb : List.replicate p.size 0xDD ++ (bytesAt P s).drop p.size = List.replicate p.size 0xDD := by rw [List.drop_of_length_le (by rw [HBS.out]; exact Nat.le_refl _), List.append_nil]
            rw [hbb] at hx2
            have hlt2 : (setBytes P s (List.replicate p.size 0xDD)).taken.length = p.taken.length := HFT.out
            rw [show (setBytes P s (List.replicate p.size 0xDD ++ (bytesAt P s).drop p.size)).taken.length = p.taken.length from HFT.out] at d2
            obtain ⟨bt, hbt, _, zt⟩ := hx2.tak.at (taken_get _ s (by rw [hlt2]; exact hst))
            have hfz := hx2.tak.unfrozen hbt (show s < (setBytes P s (List.replicate p.size 0xDD)).taken.length * 1 by rw [hlt2]; omega)
            rw [hbt] at d2
            have HPT := Lib.hid (hx2.put_taken hbt (show s < (setBytes P s (List.replicate p.size 0xDD)).taken.length by rw [hlt2]; exact hst) false)
            have HC2 := Lib.hid (Chg.trans hc2 (Chg.grown (grown_set wr bt s (.bool false)) (hx2.stak _ hbt)) (fun j hj => .inl hj))
            clear hx2 hc2 hlb hbb hlt2 hrow2
            go_wp2
            go_roundw
            case rel => exact ⟨k + 1, hkl, by go_num, by rw [HT.out]; exact HPT.out, HC2.out⟩
            case measure => simp [intOf]; omega
      · obtain rfl : k = L.length := by omega
        rw [List.take_length] at hx
        obtain ⟨_, l1, l2, l3⟩ := hx.lcell hi
        have f0 := hx.blk.frozen (3 + i * 4)
        have f1 := hx.blk.frozen (3 + i * 4 + 1)
        have f2 := hx.blk.frozen (3 + i * 4 + 2)
        have f3 := hx.blk.frozen (3 + i * 4 + 3)
        have l1' : wr.cell? ⟨g, 3 + i * 4 + 1, none⟩ = some (.int .i64 ((landAt p i).gen : Int)) := l1
        have HPF := Lib.hid (hx.put4 (show (freeSlabs p L).lands.length = 256 from hln) hi false (landAt p i).gen)
        have HC := Lib.hid hc
        clear hx hc l1
        go_wp2
        go_ret
        exact ⟨rfl, HPF.out.after HC.out⟩
end Go.Proofs.Ytfnimpgphagnfaa
