/- Layer 14 (table): what is built is opened as it was. No step of a program is taken here. -/
import Derived.Test.YtpaogoehgkoaeaaGreatDoorQTabKnown
import Derived.Test.YtpaogoehgkoaeaaGreatDoorQBunB1
namespace Go.Proofs.YtpaogoehgkoaeaaGreatDoor
set_option linter.unusedVariables false
set_option linter.unusedSimpArgs false
open Go.RowKit Tab
open Go.Op (bytesLess)
theorem numF_at (p q : List UInt8) (n : Nat) (h : n < 4294967296) (at_ : Nat) (hp : at_ = p.length) : numF (p ++ (Varint.bytesN 4 n ++ q)) at_ = n := by
  subst hp
  unfold numF
  rw [List.drop_left, List.take_left' (by rw [Varint.bytesN_len])]
  exact le_bytesN' 4 n (by omega)
theorem cut_part (p s q : List UInt8) (off n : Nat) (ho : off = p.length) (hn : n = s.length) : cutF (p ++ (partB s ++ q)) off n = some s := by
  subst ho hn
  unfold cutF
  have h1 : ((p ++ (partB s ++ q)).drop p.length).take s.length = s := by
    rw [List.drop_left]; unfold partB; rw [List.append_assoc]; exact List.take_left' rfl
  have h2 : numF (p ++ (partB s ++ q)) (p.length + s.length) = markF s := by
    have : p ++ (partB s ++ q) = (p ++ s) ++ (Varint.bytesN 4 (markF s) ++ q) := by unfold partB; simp [List.append_assoc]
    rw [this]; exact numF_at _ _ _ (markF_lt s) _ (by simp)
  rw [if_neg (by simp only [List.length_append, partB_len]; omega), h1, h2, if_pos rfl]
theorem foot_len (a fl e xl c : Nat) : (footF a fl e xl c).length = 24 := by unfold footF; simp [Varint.bytesN_len]
theorem foot_num (P : List UInt8) (a fl e xl c : Nat) (b : List UInt8) (hb : b = P ++ footF a fl e xl c) (ha : a < 4294967296) (hfl : fl < 4294967296) (he : e < 4294967296) (hxl : xl < 4294967296) :
    numF b (b.length - 24) = a ∧ numF b (b.length - 24 + 4) = fl ∧ numF b (b.length - 24 + 8) = e ∧ numF b (b.length - 24 + 12) = xl := by
  have hl : b.length - 24 = P.length := by rw [hb, List.length_append, foot_len]; omega
  rw [hl, hb]
  unfold footF
  refine ⟨numF_at _ _ _ ha _ rfl, ?_, ?_, ?_⟩
  · rw [← List.append_assoc P]; exact numF_at _ _ _ hfl _ (by simp [Varint.bytesN_len])
  · rw [← List.append_assoc P, ← List.append_assoc (P ++ _)]; exact numF_at _ _ _ he _ (by simp [Varint.bytesN_len])
  · rw [← List.append_assoc P, ← List.append_assoc (P ++ _), ← List.append_assoc (P ++ _ ++ _)]; exact numF_at _ _ _ hxl _ (by simp [Varint.bytesN_len])
theorem lay_parts (L : List (List Ci)) (f : List UInt8) : (layF L f).length = (bodyF L).length + (f.length + 4) + ((idxB L).length + 4) + 24 := by
  unfold layF; simp only [List.length_append, partB_len, foot_len]; omega
theorem lay_nums {L : List (List Ci)} {f : List UInt8} (h : (layF L f).length < 4294967296) (b : List UInt8) (hl : b.length = (layF L f).length) (hb : ∀ at_, b.length - 24 ≤ at_ → numF b at_ = numF (layF L f) at_) :
    numF b (b.length - 24) = (bodyF L).length ∧ numF b (b.length - 24 + 4) = f.length ∧ numF b (b.length - 24 + 8) = (bodyF L).length + (partB f).length ∧ numF b (b.length - 24 + 12) = (idxB L).length := by
  have hp := lay_parts L f
  rw [hb _ (Nat.le_refl _), hb _ (by omega), hb _ (by omega), hb _ (by omega), hl]
  refine foot_num (bodyF L ++ (partB f ++ partB (idxB L))) _ _ _ _ L.flatten.length _ ?_ (by omega) (by omega) (by rw [partB_len]; omega) (by omega)
  unfold layF; simp only [List.append_assoc]
theorem filt_lay {L : List (List Ci)} {f : List UInt8} (h : (layF L f).length < 4294967296) : filtOf (layF L f) = some f ∧ idxOf (layF L f) = some (idxB L) := by
  obtain ⟨n0, n1, n2, n3⟩ := lay_nums h _ rfl (fun _ _ => rfl)
  unfold filtOf idxOf
  rw [n0, n1, n2, n3]
  refine ⟨?_, ?_⟩
  · unfold layF; exact cut_part _ _ _ _ _ rfl rfl
  · unfold layF; rw [← List.append_assoc]; exact cut_part _ _ _ _ _ (by simp) rfl
/- cells that rise -/
theorem ord_asc {l : List Ci} (h : ordF l = true) : l.Pairwise AscI := by
  have hs : ∀ i (hi : i + 1 < l.length), vless l[i].vr l[i + 1].vr = true := fun i hi => by
    have := List.all_eq_true.1 h (i + 1) (List.mem_range.2 hi)
    rw [ordAt_succ hi, Bool.and_eq_true] at this
    exact this.2
  have key : ∀ d i (hi : i + d + 1 < l.length), vless l[i].vr l[i + d + 1].vr = true := by
    intro d
    induction d with
    | zero => intro i hi; exact hs i hi
    | succ d ih => intro i hi; exact vless_trans (ih i (by omega)) (hs (i + d + 1) hi)
  rw [List.pairwise_iff_getElem]
  intro i j hi hj hij
  obtain ⟨d, rfl⟩ : ∃ d, j = i + d + 1 := ⟨j - i - 1, by omega⟩
  exact key d i hj
theorem asc_ord {l : List Ci} (h : l.Pairwise AscI) (hok : ∀ c ∈ l, okC c = true) : ordF l = true := by
  refine ordF_good fun i hi => ?_
  cases i with
  | zero => rw [ordAt_zero hi]; exact hok _ (List.getElem_mem hi)
  | succ i =>
    rw [ordAt_succ hi, hok _ (List.getElem_mem hi), Bool.true_and]
    exact List.pairwise_iff_getElem.1 h i (i + 1) (by omega) hi (by omega)
theorem pairK_len {c : Ci} (h : okC c = true) : (pairC c).1.length ≤ 138 := by
  have h1 := (okV_of h).2.1
  have h2 := escF_len c.key
  unfold pairC
  simp only
  rw [sortG_yes h]
  simp only
  rw [sortF_len]; omega
theorem pairK_less {a b : Ci} (ha : okC a = true) (hb : okC b = true) : bytesLess (pairC a).1 (pairC b).1 = vless a.vr b.vr := sortG_less ha hb
/-- blocks of cells that rise -/
structure GoodL (L : List (List Ci)) : Prop where
  ne : ∀ r ∈ L, r ≠ []
  len : L.flatten.length ≤ 5000
  asc : L.flatten.Pairwise AscI
  ok : ∀ c ∈ L.flatten, okC c = true
  val : ∀ c ∈ L.flatten, c.val.length ≤ 1000
theorem GoodL.count {L : List (List Ci)} (h : GoodL L) : L.length ≤ 5000 := Nat.le_trans (flatC_len h.ne) h.len
theorem GoodL.okr {L : List (List Ci)} (h : GoodL L) {r : List Ci} (hr : r ∈ L) : ∀ c ∈ r, okC c = true := fun c hc => h.ok c (List.mem_flatten.2 ⟨r, hr, hc⟩)
theorem GoodL.lay {L : List (List Ci)} (h : GoodL L) {f : List UInt8} (hf : f.length ≤ 50000) : (layF L f).length ≤ 23000000 := by
  have h1 := lay_len L f
  have h2 := h.len
  have h3 := h.count
  omega
theorem GoodL.runs {L : List (List Ci)} (h : GoodL L) {r : List Ci} (hr : r ∈ L) : Bk.chkF (r.map pairC) ((4 : Nat) : Int) = 0 := by
  have hl := mem_flat_len hr
  have hlen := h.len
  have hasc : r.Pairwise AscI := h.asc.sublist (List.sublist_flatten_of_mem hr)
  unfold Bk.chkF
  rw [if_neg (by decide), if_neg, if_pos]
  · rw [Bk.riseB_iff]
    intro i hi
    rw [List.length_map] at hi
    rw [getD_get _ (by rw [List.length_map]; omega), getD_get _ (by rw [List.length_map]; omega), List.getElem_map, List.getElem_map, pairK_less (h.okr hr _ (List.getElem_mem _)) (h.okr hr _ (List.getElem_mem _))]
    exact List.pairwise_iff_getElem.1 hasc i (i + 1) (by omega) hi (by omega)
  · rintro (h1 | h1)
    · rw [List.length_map] at h1; omega
    · obtain ⟨p, hp, hb⟩ := List.any_eq_true.1 h1
      obtain ⟨c, hc, rfl⟩ := List.mem_map.1 hp
      have k1 := pairK_len (h.okr hr c hc)
      have k2 := h.val c (List.mem_flatten.2 ⟨r, hr, hc⟩)
      unfold Bk.longB at hb
      have k3 : (pairC c).2.length ≤ 1000 := k2
      rw [Bool.or_eq_true, decide_eq_true_eq, decide_eq_true_eq] at hb
      omega
theorem cells_pairs : ∀ {r : List Ci}, (∀ c ∈ r, okC c = true) → cellsF (r.map pairC) = some r
  | [], _ => rfl
  | c :: r, h => by
    have hc := h c List.mem_cons_self
    have hp : cellF (pairC c) = some c := by
      obtain ⟨e1, e2⟩ := nat_of hc
      unfold cellF pairC
      simp only
      rw [uns_sort hc]
      simp only
      rw [e1, e2]
    rw [List.map_cons, cellsF, hp, cells_pairs (fun x hx => h x (List.mem_cons_of_mem _ hx))]
theorem blk_pairs {itv : Nat} {l : List Bk.Pr} (h1 : 1 ≤ itv) (h2 : itv ≤ 64) (hc : Bk.chkF l (itv : Int) = 0) : Bk.pairsF (blkB itv l) = (l, 0) := by
  obtain ⟨k1, k2, k3⟩ := Bk.chkF_ok hc
  unfold blkB
  rw [if_pos hc]
  exact Bk.pairs_build h1 h2 k2 k1 hc
theorem body_append : ∀ A B : List (List Ci), bodyF (A ++ B) = bodyF A ++ bodyF B
  | [], B => rfl
  | r :: A, B => by rw [List.cons_append, bodyF, bodyF, body_append A B, List.append_assoc]
theorem body_split {L : List (List Ci)} {i : Nat} (hi : i < L.length) : bodyF L = bodyF (L.take i) ++ (partB (runB L[i]) ++ bodyF (L.drop (i + 1))) := by
  have : L = L.take i ++ L[i] :: L.drop (i + 1) := by rw [← List.drop_eq_getElem_cons hi, List.take_append_drop]
  conv => lhs; rw [this]
  rw [body_append, bodyF]
theorem idx_val (b : List UInt8) (a n : Nat) (ha : a < 4294967296) (hn : n < 4294967296) (k : List UInt8) (hl : a ≤ b.length) (hl2 : n ≤ b.length) :
    runF b (Varint.putF a ++ Varint.putF n) = match cutF b a n with
      | none => none
      | some s => if (Bk.pairsF s).2 ≠ 0 ∨ (Bk.pairsF s).1 = [] then none else cellsF (Bk.pairsF s).1 := by
  have e1 := Varint.get_put a (Varint.putF n) (by omega)
  have e2 := Varint.get_put n [] (by omega)
  rw [List.append_nil] at e2
  unfold runF
  rw [e1]
  simp only
  rw [List.drop_left, e2]
  simp only
  rw [if_neg (by simp), if_neg (by simp), if_neg (by omega)]
  cases cutF b a n <;> rfl
theorem GoodL.run {L : List (List Ci)} (h : GoodL L) {f : List UInt8} (hf : f.length ≤ 50000) {i : Nat} (hi : i < L.length) (b : List UInt8) (hl : b.length = (layF L f).length) (hc : cutF b (bodyF (L.take i)).length (runB L[i]).length = some (runB L[i])) :
    runF b (idxAt L i).2 = some L[i] := by
  have h1 := h.lay hf
  have h2 := lay_parts L f
  have h3 := body_split hi
  have h4 : (bodyF L).length = (bodyF (L.take i)).length + ((runB L[i]).length + 4 + (bodyF (L.drop (i + 1))).length) := by rw [h3]; simp only [List.length_append, partB_len]
  have hm : L[i] ∈ L := List.getElem_mem hi
  unfold idxAt
  simp only
  rw [getD_get _ hi, idx_val b _ _ (by omega) (by omega) [] (by omega) (by omega), hc]
  simp only
  have hp : Bk.pairsF (runB L[i]) = (L[i].map pairC, 0) := blk_pairs (by decide) (by decide) (h.runs hm)
  rw [hp, if_neg, cells_pairs (h.okr hm)]
  rintro (k | k)
  · exact k rfl
  · exact h.ne _ hm (List.map_eq_nil_iff.1 k)
theorem runsOf_all {b : List UInt8} : ∀ {A : List Bk.Pr} {L : List (List Ci)} (hl : A.length = L.length), (∀ i (h1 : i < A.length) (h2 : i < L.length), runF b A[i].2 = some L[i]) → runsOf b A = some L
  | [], [], _, _ => rfl
  | [], _ :: _, hl, _ => by cases hl
  | _ :: _, [], hl, _ => by cases hl
  | p :: A, r :: L, hl, h => by
    have h0 := h 0 (by simp) (by simp)
    rw [List.getElem_cons_zero, List.getElem_cons_zero] at h0
    rw [runsOf, h0, runsOf_all (A := A) (L := L) (by simpa using hl) (fun i h1 h2 => by
      have := h (i + 1) (by simpa using h1) (by simpa using h2)
      rwa [List.getElem_cons_succ, List.getElem_cons_succ] at this)]
theorem idx_len (L : List (List Ci)) : (idxF L).length = L.length := by unfold idxF; rw [List.length_map, List.length_range]
theorem idx_get {L : List (List Ci)} {i : Nat} (h : i < (idxF L).length) : (idxF L)[i] = idxAt L i := by simp only [idxF, List.getElem_map, List.getElem_range]
theorem lastK_get {r : List Ci} (h : 0 < r.length) : lastK r = (pairC r[r.length - 1]).1 := by
  unfold lastK
  rw [List.getLastD_eq_getLast?, List.getLast?_eq_getElem?, List.getElem?_eq_getElem (by omega)]
  rfl
theorem headK_get {r : List Ci} (h : 0 < r.length) : headK r = (pairC r[0]).1 := by
  unfold headK
  rw [List.headD_eq_head?_getD, List.head?_eq_getElem?, List.getElem?_eq_getElem h]
  rfl
theorem GoodL.len0 {L : List (List Ci)} (h : GoodL L) {i : Nat} (hi : i < L.length) : 0 < L[i].length := by
  rcases Nat.eq_zero_or_pos L[i].length with h1 | h1
  · exact absurd (List.eq_nil_of_length_eq_zero h1) (h.ne _ (List.getElem_mem hi))
  · exact h1
theorem GoodL.idx {L : List (List Ci)} (h : GoodL L) {f : List UInt8} (hf : f.length ≤ 50000) : Bk.chkF (idxF L) ((1 : Nat) : Int) = 0 := by
  have hct := h.count
  have hpw := List.pairwise_flatten.1 h.asc
  have hlK : ∀ i (hi : i < L.length), (idxAt L i).1.length ≤ 138 ∧ bytesLess (idxAt L i).1 (lastK L[i]) = false := fun i hi => by
    have hk : (lastK L[i]).length ≤ 138 := by rw [lastK_get (h.len0 hi)]; exact pairK_len (h.okr (List.getElem_mem hi) _ (List.getElem_mem _))
    unfold idxAt
    simp only
    rw [getD_get _ hi]
    split
    · exact ⟨Nat.le_trans (Ikey.part_len _ _) hk, Ikey.part_from _ _⟩
    · exact ⟨hk, bl_irr _⟩
  unfold Bk.chkF
  rw [if_neg (by decide), if_neg, if_pos]
  · rw [Bk.riseB_iff]
    intro i hi
    rw [idx_len] at hi
    rw [getD_get _ (by rw [idx_len]; omega), getD_get _ (by rw [idx_len]; omega), idx_get, idx_get]
    have h0 := h.len0 (show i < L.length by omega)
    have h1 := h.len0 hi
    have hm0 : L[i] ∈ L := List.getElem_mem _
    have hm1 : L[i + 1] ∈ L := List.getElem_mem _
    have k1 : bytesLess (lastK L[i]) (headK L[i + 1]) = true := by
      rw [lastK_get h0, headK_get h1, pairK_less (h.okr hm0 _ (List.getElem_mem _)) (h.okr hm1 _ (List.getElem_mem _))]
      exact List.pairwise_iff_getElem.1 hpw.2 i (i + 1) (by omega) hi (by omega) _ (List.getElem_mem _) _ (List.getElem_mem _)
    have k2 : bytesLess (lastK L[i + 1]) (headK L[i + 1]) = false := by
      rw [lastK_get h1, headK_get h1, pairK_less (h.okr hm1 _ (List.getElem_mem _)) (h.okr hm1 _ (List.getElem_mem _))]
      rcases Nat.eq_or_lt_of_le (show 1 ≤ L[i + 1].length from h1) with e | e
      · have : L[i + 1].length - 1 = 0 := by omega
        simp only [this]
        exact vless_irr _
      · exact vless_asymm (List.pairwise_iff_getElem.1 (hpw.1 _ hm1) 0 (L[i + 1].length - 1) (by omega) (by omega) (by omega))
    have k3 : (idxAt L i).1 = Ikey.partF (lastK L[i]) (headK L[i + 1]) := by
      unfold idxAt
      simp only
      rw [if_pos hi, getD_get _ (by omega), getD_get _ hi]
    have k4 := Ikey.part_below k1
    rw [← k3] at k4
    exact bl_lt_le k4 (bl_le_trans k2 (hlK (i + 1) hi).2)
  · rintro (h1 | h1)
    · rw [idx_len] at h1; omega
    · obtain ⟨p, hp, hb⟩ := List.any_eq_true.1 h1
      obtain ⟨i, hi, rfl⟩ := List.getElem_of_mem hp
      rw [idx_get hi] at hb
      rw [idx_len] at hi
      have k1 := (hlK i hi).1
      have k2 : (idxAt L i).2.length ≤ 20 := by
        unfold idxAt Varint.putF
        simp only [List.length_append]
        have a1 := (Varint.putN_len 9 (bodyF (L.take i)).length).1
        have a2 := (Varint.putN_len 9 (runB (L.getD i [])).length).1
        omega
      unfold Bk.longB at hb
      rw [Bool.or_eq_true, decide_eq_true_eq, decide_eq_true_eq] at hb
      omega
theorem GoodL.idx_pairs {L : List (List Ci)} (h : GoodL L) {f : List UInt8} (hf : f.length ≤ 50000) : Bk.pairsF (idxB L) = (idxF L, 0) := blk_pairs (by decide) (by decide) (h.idx hf)
theorem GoodL.runs_lay {L : List (List Ci)} (h : GoodL L) {f : List UInt8} (hf : f.length ≤ 50000) : runsOf (layF L f) (idxF L) = some L := by
  refine runsOf_all (idx_len L) fun i h1 h2 => ?_
  rw [idx_get]
  refine h.run hf h2 _ rfl ?_
  unfold layF
  rw [body_split h2]
  simp only [List.append_assoc]
  exact cut_part _ _ _ _ _ rfl rfl
theorem GoodL.chk {L : List (List Ci)} (h : GoodL L) (hne : L ≠ []) {size bits : Int} (h1 : 1 ≤ size) (h2 : size ≤ 4096) (h3 : 1 ≤ bits) (h4 : bits ≤ 64) : chkT L.flatten size bits = 0 := by
  have hl := h.len
  have k1 : ¬ (5000 < L.flatten.length ∨ L.flatten.any bigC = true) := by
    rintro (k | k)
    · omega
    · obtain ⟨c, hc, hb⟩ := List.any_eq_true.1 k
      have := h.val c hc
      unfold bigC at hb
      rw [decide_eq_true_eq] at hb
      omega
  have k2 : L.flatten ≠ [] := by
    intro e
    have := flatC_len h.ne
    rw [e] at this
    exact hne (List.eq_nil_of_length_eq_zero (by simpa using this))
  unfold chkT
  rw [if_neg (by omega), if_neg k1, if_pos ⟨k2, asc_ord h.asc h.ok⟩]
theorem GoodL.open_ {L : List (List Ci)} (h : GoodL L) (hne : L ≠ []) {f : List UInt8} (hf : f.length ≤ 50000) (hk : knownF L.flatten f = true) : openF (layF L f) = some (L.flatten, f) := by
  have h1 := h.lay hf
  have h2 := lay_parts L f
  obtain ⟨e1, e2⟩ := filt_lay (L := L) (f := f) (by omega)
  unfold openF
  rw [if_neg (by omega), e1, e2]
  simp only
  rw [h.idx_pairs hf, if_neg (by simp), h.runs_lay hf]
  simp only
  rw [if_pos ⟨h.chk hne (by decide) (by decide) (by decide) (by decide), hk, trivial⟩]
theorem good_of {l : List Ci} {size bits : Int} (h : chkT l size bits = 0) : GoodL (runsF size l) ∧ runsF size l ≠ [] ∧ (buildF (keysF l) bits).1.length ≤ 50000 ∧ knownF l (buildF (keysF l) bits).1 = true := by
  obtain ⟨s1, s2, b1, b2, h5, hbig, hne, ho⟩ := chkT_ok h
  have hf := runs_flat size l
  refine ⟨⟨runsG_ne size l [] 0, by rw [hf]; exact h5, by rw [hf]; exact ord_asc ho, by rw [hf]; exact ord_ok ho, by rw [hf]; exact big_le hbig⟩, ?_, ?_, ?_⟩
  · intro e
    rw [e] at hf
    exact hne (by rw [← hf]; rfl)
  · have hkl := keys_len l
    have := filterB_len (keysF l) bits.toNat (by omega) (by omega)
    unfold buildF
    split
    · simp
    · split
      · simp
      · exact this
  · refine knownF_good (j := bits.toNat - 1) (by omega) ?_
    rw [show ((bits.toNat - 1 : Nat) : Int) + 1 = bits by omega]
    exact beq_self_eq_true _
/-- what is built is opened as it was -/
theorem open_build {l : List Ci} {size bits : Int} (h : chkT l size bits = 0) : openF (buildT l size bits).1 = some (l, (buildF (keysF l) bits).1) ∧ (buildT l size bits).2 = 0 ∧ (buildT l size bits).1.length ≤ 23000000 ∧ 24 < (buildT l size bits).1.length := by
  obtain ⟨h1, h2, h3, h4⟩ := good_of h
  unfold buildT
  rw [if_pos h]
  have hf := runs_flat size l
  have h5 := h1.open_ h2 h3 (by rw [hf]; exact h4)
  rw [hf] at h5
  have h6 := lay_parts (runsF size l) (buildF (keysF l) bits).1
  exact ⟨h5, rfl, h1.lay h3, by simp only; omega⟩
end Go.Proofs.YtpaogoehgkoaeaaGreatDoor
