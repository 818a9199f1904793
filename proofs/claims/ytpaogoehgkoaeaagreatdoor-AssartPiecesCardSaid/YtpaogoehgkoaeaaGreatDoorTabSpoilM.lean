/- Layer 14 (table): spoiled bytes are no table; what a table's cells answer, in plain words. No step of a program is taken here. -/
import Derived.Test.YtpaogoehgkoaeaaGreatDoorTabPlain
import Derived.Test.YtpaogoehgkoaeaaGreatDoorBunB3
namespace Go.Proofs.YtpaogoehgkoaeaaGreatDoor
set_option linter.unusedVariables false
set_option linter.unusedSimpArgs false
open Go.RowKit Tab
theorem mark_set {s : List UInt8} {q : Nat} (h : q < s.length) {y : UInt8} (hy : y ≠ 0) : markF (s.set q (s[q] ^^^ y)) ≠ markF s := by
  intro e
  unfold markF at e
  have e1 : Crc.sumF (s.set q (s[q] ^^^ y)) = Crc.sumF s := by
    have := congrArg Crc.unmaskF (BitVec.eq_of_toNat_eq e)
    rwa [Crc.unmask_mask, Crc.unmask_mask] at this
  unfold Crc.sumF Crc.moreF at e1
  rw [Crc.foldF_set _ _ _ h] at e1
  have e2 := congrArg (fun x => ~~~ x) e1
  simp only [BitVec.not_not] at e2
  have e3 := Crc.xor_cancel_left _ _ 0#32 (e2.trans (BitVec.xor_zero).symm)
  have e4 := congrArg BitVec.toNat (Crc.iterF_eq_zero _ _ e3)
  rw [BitVec.toNat_ofNat] at e4
  have := y.toNat_lt
  have e5 : y.toNat = 0 := by simpa [Nat.mod_eq_of_lt (show y.toNat < 2 ^ 32 by omega)] using e4
  exact hy (UInt8.toNat_inj.1 e5)
theorem byte_xor_ne {x y : UInt8} (hy : y ≠ 0) : x ^^^ y ≠ x := by
  intro e
  have : x ^^^ (x ^^^ y) = x ^^^ x := by rw [e]
  rw [← UInt8.xor_assoc, UInt8.xor_self, UInt8.zero_xor] at this
  exact hy this
theorem slice_set (b : List UInt8) (k off n : Nat) (v : UInt8) : ((b.set k v).drop off).take n = if off ≤ k ∧ k < off + n then ((b.drop off).take n).set (k - off) v else (b.drop off).take n := by
  rw [List.drop_set]
  split
  · rw [if_neg (by omega)]
  · rw [List.take_set]
    split
    · rfl
    · exact List.set_eq_of_length_le (by rw [List.length_take]; omega)
theorem num_out {b : List UInt8} {k at_ : Nat} (v : UInt8) (h : k < at_ ∨ at_ + 4 ≤ k) : numF (b.set k v) at_ = numF b at_ := by
  unfold numF
  rw [slice_set, if_neg (by omega)]
theorem cut_out {b : List UInt8} {k off n : Nat} (v : UInt8) (h : k < off ∨ off + n + 4 ≤ k) : cutF (b.set k v) off n = cutF b off n := by
  have hs := slice_set b k off n v
  rw [if_neg (by omega)] at hs
  unfold cutF
  rw [List.length_set, num_out v (by omega), hs]
theorem cut_in {b s : List UInt8} {k off n : Nat} (hk : k < b.length) {y : UInt8} (hy : y ≠ 0) (h1 : off ≤ k) (h2 : k < off + n + 4) (h : cutF b off n = some s) : cutF (b.set k (b[k] ^^^ y)) off n = none := by
  unfold cutF at h ⊢
  rw [List.length_set]
  split at h
  · cases h
  · rename_i hlen
    rw [if_neg hlen]
    split at h
    · rename_i hm
      have : ¬ numF (b.set k (b[k] ^^^ y)) (off + n) = markF (((b.set k (b[k] ^^^ y)).drop off).take n) := by
        by_cases hkn : k < off + n
        · rw [num_out _ (.inl hkn), slice_set, if_pos ⟨h1, hkn⟩, hm]
          have hq : k - off < ((b.drop off).take n).length := by rw [List.length_take, List.length_drop]; omega
          have hb : b[k] = ((b.drop off).take n)[k - off] := by
            rw [List.getElem_take, List.getElem_drop]
            congr 1; omega
          rw [hb]
          exact fun e => mark_set hq hy e.symm
        · rw [slice_set, if_neg (by omega), ← hm]
          unfold numF
          rw [slice_set, if_pos ⟨by omega, by omega⟩]
          have hq : k - (off + n) < ((b.drop (off + n)).take 4).length := by rw [List.length_take, List.length_drop]; omega
          have hb : b[k] = ((b.drop (off + n)).take 4)[k - (off + n)] := by
            rw [List.getElem_take, List.getElem_drop]
            congr 1; omega
          rw [hb]
          intro e
          have e1 := le_inj (by rw [List.length_set]) e
          have e2 : (((b.drop (off + n)).take 4).set (k - (off + n)) (((b.drop (off + n)).take 4)[k - (off + n)] ^^^ y))[k - (off + n)]? = ((b.drop (off + n)).take 4)[k - (off + n)]? := by rw [e1]
          rw [List.getElem?_set_self hq, List.getElem?_eq_getElem hq] at e2
          exact byte_xor_ne hy (Option.some.inj e2)
      rw [if_neg this]
    · cases h
theorem body_find : ∀ {L : List (List Ci)} {k : Nat}, k < (bodyF L).length → ∃ i, ∃ h : i < L.length, (bodyF (L.take i)).length ≤ k ∧ k < (bodyF (L.take i)).length + (runB L[i]).length + 4
  | [], k, h => by simp [bodyF] at h
  | r :: L, k, h => by
    rw [bodyF, List.length_append, partB_len] at h
    by_cases hk : k < (runB r).length + 4
    · exact ⟨0, by simp, by simp [bodyF], by simpa [bodyF] using hk⟩
    · obtain ⟨i, hi, h1, h2⟩ := body_find (L := L) (k := k - ((runB r).length + 4)) (by omega)
      refine ⟨i + 1, by simpa using hi, ?_, ?_⟩
      · rw [List.take_succ_cons, bodyF, List.length_append, partB_len]; omega
      · rw [List.take_succ_cons, bodyF, List.length_append, partB_len, List.getElem_cons_succ]; omega
/-- with one byte changed it is none -/
theorem GoodL.spoil {L : List (List Ci)} (h : GoodL L) {f : List UInt8} (hf : f.length ≤ 50000) {k : Nat} (hk : k < (layF L f).length) (hk2 : k + 24 < (layF L f).length) {y : UInt8} (hy : y ≠ 0) : openF ((layF L f).set k ((layF L f)[k] ^^^ y)) = none := by
  have h1 := h.lay hf
  have h2 := lay_parts L f
  obtain ⟨n0, n1, n2, n3⟩ := lay_nums (L := L) (f := f) (by omega) ((layF L f).set k ((layF L f)[k] ^^^ y)) (by rw [List.length_set]) (fun at_ ha => num_out _ (.inl (by rw [List.length_set] at ha; omega)))
  obtain ⟨f1, f2⟩ := filt_lay (L := L) (f := f) (by omega)
  obtain ⟨m0, m1, m2, m3⟩ := lay_nums (L := L) (f := f) (by omega) _ rfl (fun _ _ => rfl)
  have hl : ((layF L f).set k ((layF L f)[k] ^^^ y)).length = (layF L f).length := List.length_set
  have c1 : filtOf ((layF L f).set k ((layF L f)[k] ^^^ y)) = cutF ((layF L f).set k ((layF L f)[k] ^^^ y)) (bodyF L).length f.length := by unfold filtOf; rw [n0, n1]
  have c2 : idxOf ((layF L f).set k ((layF L f)[k] ^^^ y)) = cutF ((layF L f).set k ((layF L f)[k] ^^^ y)) ((bodyF L).length + (partB f).length) (idxB L).length := by unfold idxOf; rw [n2, n3]
  unfold filtOf at f1
  rw [m0, m1] at f1
  unfold idxOf at f2
  rw [m2, m3] at f2
  have hp := partB_len f
  unfold openF
  rw [if_neg (by omega), c1, c2]
  by_cases ha : k < (bodyF L).length
  · rw [cut_out _ (.inl (by omega)), cut_out _ (.inl (by omega)), f1, f2]
    simp only
    rw [h.idx_pairs hf, if_neg (by simp)]
    obtain ⟨i, hi, k1, k2⟩ := body_find ha
    have h3 := body_split hi
    have h4 : (bodyF L).length = (bodyF (L.take i)).length + ((runB L[i]).length + 4 + (bodyF (L.drop (i + 1))).length) := by rw [h3]; simp only [List.length_append, partB_len]
    have hc : cutF (layF L f) (bodyF (L.take i)).length (runB L[i]).length = some (runB L[i]) := by
      unfold layF
      rw [body_split hi]
      simp only [List.append_assoc]
      exact cut_part _ _ _ _ _ rfl rfl
    have hr : runsOf ((layF L f).set k ((layF L f)[k] ^^^ y)) (idxF L) = none := by
      refine runsOf_no (i := i) (by rw [idx_len]; exact hi) ?_
      rw [idx_get]
      unfold idxAt
      simp only
      rw [getD_get _ hi, idx_val _ _ _ (by omega) (by omega) [] (by omega) (by omega), cut_in hk hy k1 k2 hc]
    rw [hr]
  · by_cases hb : k < (bodyF L).length + (f.length + 4)
    · rw [cut_in hk hy (by omega) (by omega) f1]
      all_goals cases cutF ((layF L f).set k ((layF L f)[k] ^^^ y)) ((bodyF L).length + (partB f).length) (idxB L).length <;> rfl
    · rw [cut_in hk hy (by omega) (by omega) f2]
      all_goals cases cutF ((layF L f).set k ((layF L f)[k] ^^^ y)) (bodyF L).length f.length <;> rfl
theorem lay_end (L : List (List Ci)) (f : List UInt8) : ∃ P, layF L f = P ++ [139, 122] := by
  unfold layF footF
  rw [show Varint.bytesN 4 2055969965 = [173, 156] ++ [139, 122] by decide]
  exact ⟨bodyF L ++ (partB f ++ (partB (idxB L) ++ (Varint.bytesN 4 (bodyF L).length ++ (Varint.bytesN 4 f.length ++ (Varint.bytesN 4 ((bodyF L).length + (partB f).length) ++ (Varint.bytesN 4 (idxB L).length ++ (Varint.bytesN 4 L.flatten.length ++ [173, 156]))))))), by simp only [List.append_assoc]⟩
theorem open_some {b : List UInt8} {C : List Ci} {f : List UInt8} (h : openF b = some (C, f)) : ∃ L, layF L f = b ∧ C = L.flatten ∧ chkT C 1 1 = 0 ∧ knownF C f = true ∧ filtOf b = some f ∧ 24 ≤ b.length := by
  unfold openF at h
  split at h
  · cases h
  · rename_i hl
    split at h
    · rename_i f' x hf hx
      split at h
      · cases h
      · split at h
        · cases h
        · rename_i L hL
          split at h
          · rename_i hc
            cases h
            exact ⟨L, hc.2.2, rfl, hc.1, hc.2.1, hf, by omega⟩
          · cases h
    · cases h
theorem open_last {b : List UInt8} (h : openF b ≠ none) : b.getLast? = some 122 := by
  cases ho : openF b with
  | none => exact absurd ho h
  | some r =>
    obtain ⟨C, f⟩ := r
    obtain ⟨L, rfl, _⟩ := open_some ho
    obtain ⟨P, hP⟩ := lay_end L f
    rw [hP]
    simp
theorem open_more (L : List (List Ci)) (f : List UInt8) : openF (layF L f ++ [0]) = none := by
  cases ho : openF (layF L f ++ [0]) with
  | none => rfl
  | some r =>
    have := open_last (b := layF L f ++ [0]) (by rw [ho]; simp)
    rw [List.getLast?_append] at this
    simp at this
theorem open_less (L : List (List Ci)) (f : List UInt8) : openF ((layF L f).take ((layF L f).length - 1)) = none := by
  cases ho : openF ((layF L f).take ((layF L f).length - 1)) with
  | none => rfl
  | some r =>
    have := open_last (b := (layF L f).take ((layF L f).length - 1)) (by rw [ho]; simp)
    obtain ⟨P, hP⟩ := lay_end L f
    have hq : (layF L f).take ((layF L f).length - 1) = P ++ [139] := by
      rw [hP, show P ++ [(139 : UInt8), 122] = (P ++ [139]) ++ [122] by simp]
      exact List.take_left' (by simp)
    rw [hq] at this
    simp at this
/- the document's Open -/
theorem doc_open {b : List UInt8} (h : b.length < 4294967296) : docOpenF b = openF b := by
  unfold docOpenF openF
  split
  · rfl
  · cases hf : filtOf b with
    | none => rfl
    | some f =>
      cases hx : idxOf b with
      | none => rfl
      | some x =>
        simp only
        split
        · rfl
        · cases hL : runsOf b (Bk.pairsF x).1 with
          | none => rfl
          | some L =>
            simp only
            have : ((List.range 64).any (fun i => layF L (buildF (keysF L.flatten) ((i : Int) + 1)).1 == b) = true) ↔ (knownF L.flatten f = true ∧ layF L f = b) := by
              unfold knownF
              rw [List.any_eq_true, List.any_eq_true]
              constructor
              · rintro ⟨i, hi, he⟩
                have he := eq_of_beq he
                have hg := (filt_lay (L := L) (f := (buildF (keysF L.flatten) ((i : Int) + 1)).1) (by rw [he]; exact h)).1
                rw [he, hf] at hg
                have hg := Option.some.inj hg
                exact ⟨⟨i, hi, by rw [hg]; exact beq_self_eq_true _⟩, by rw [hg]; exact he⟩
              · rintro ⟨⟨i, hi, he⟩, hb⟩
                refine ⟨i, hi, ?_⟩
                rw [← eq_of_beq he, hb]
                exact beq_self_eq_true _
            by_cases hc : chkT L.flatten 1 1 = 0 ∧ (List.range 64).any (fun i => layF L (buildF (keysF L.flatten) ((i : Int) + 1)).1 == b) = true
            · rw [if_pos hc, if_pos ⟨hc.1, this.1 hc.2⟩]
            · rw [if_neg hc, if_neg (fun k => hc ⟨k.1, this.2 k.2⟩)]
/- what cells answer -/
theorem ranks_filter (v : Vr) : ∀ {l : List Ci}, l.Pairwise AscI → l.take (rankI v l) = l.filter (fun c => vless c.vr v) ∧ l.drop (rankI v l) = l.filter (fun c => !vless c.vr v)
  | [], _ => ⟨rfl, rfl⟩
  | c :: l, h => by
    have h1 := ranks_filter v (List.pairwise_cons.1 h).2
    cases hb : vless c.vr v with
    | true =>
      rw [rankI, if_pos hb, List.take_succ_cons, List.drop_succ_cons, h1.1, h1.2]
      exact ⟨by simp [hb], by simp [hb]⟩
    | false =>
      have hn : ∀ x ∈ l, vless x.vr v = false := fun x hx => by
        rw [Bool.eq_false_iff]
        intro hx2
        have := vless_trans ((List.pairwise_cons.1 h).1 x hx) hx2
        rw [hb] at this; cases this
      rw [rankI, if_neg (by rw [hb]; decide), List.take_zero, List.drop_zero]
      refine ⟨?_, ?_⟩
      · exact (List.filter_eq_nil_iff.2 fun x hx => by rcases List.mem_cons.1 hx with rfl | hx <;> simp [*]).symm
      · exact (List.filter_eq_self.2 fun x hx => by rcases List.mem_cons.1 hx with rfl | hx <;> simp [*]).symm
end Go.Proofs.YtpaogoehgkoaeaaGreatDoor
