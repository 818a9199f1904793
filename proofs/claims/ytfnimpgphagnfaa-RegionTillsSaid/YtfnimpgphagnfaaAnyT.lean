/- A region that draws its order and ends in a forced row of operations (a store, an append): the head by what each operation's value is known to be, the tail walked behind it. No program is in sight here. -/
import Derived.Test.YtfnimpgphagnfaaAny
namespace Go.Proofs.Ytfnimpgphagnfaa
set_option linter.unusedVariables false
set_option linter.unusedSimpArgs false
open Go.RowKit
section
variable {P : Program}
/-- the first so many are done -/
def headDone (m n0 : Nat) : Array Bool := (Array.range m).map fun i => decide (i < n0)
def tailB (l : List Oper) (n0 : Nat) : Bool :=
  decide (n0 < l.length) && Region.sinkB .any l.toArray n0 && Region.chainB .any l.toArray n0 && Region.seqB .any l.toArray (l.length - n0) n0 (headDone l.length n0)
theorem take_get {l : List Oper} {n0 i : Nat} {o : Oper} (h : (l.take n0)[i]? = some o) : i < n0 ∧ l[i]? = some o := by
  rw [List.getElem?_take] at h
  split at h
  · exact ⟨by assumption, h⟩
  · cases h
theorem get_take {l : List Oper} {n0 i : Nat} {o : Oper} (hi : i < n0) (h : l[i]? = some o) : (l.take n0)[i]? = some o := by
  rw [List.getElem?_take, if_pos hi]; exact h
theorem region_any_tail {Le : World → World → Prop} (hrefl : ∀ w, Le w w) (htrans : ∀ a b c, Le a b → Le b c → Le a c) (hdrew : ∀ w, Le w w.drew) {id : Nat} {Q : Exit → Act → World → Prop} {a0 : Act} {w : World} {l : List Oper} (n0 n : Nat) (R : Nat → Value → World → Prop)
    (hm : P.follows .mixedOrders = true) (hB : anyB (l.take n0) n = true) (hT : tailB l n0 = true) (hn : a0.tmps.size = n) (hst : ∀ i v w1 w2, R i v w1 → Le w1 w2 → R i v w2)
    (hs : ∀ i o, (l.take n0)[i]? = some o → Shown P Le (l.take n0) R a0 w i o)
    (hfin : ∀ w1 val, Le w w1 → (∀ i o, (l.take n0)[i]? = some o → o.dst.isSome = true → R i (val i) w1) → wpList P l.toArray Q (l.drop n0) (putAll val (l.take n0) 0 a0) w1) : (Code.region id l.toArray true).wp P Q a0 w := by
  simp only [tailB, Bool.and_eq_true, decide_eq_true_eq] at hT
  obtain ⟨⟨⟨hn0, hsink⟩, hchain⟩, hseq⟩ := hT
  have hsize : l.toArray.size = l.length := by simp
  have hpl : (l.take n0).length = n0 := by simp; omega
  have getX : ∀ (listed : Array Bool) (k : Nat), listed.size = l.length → k < n0 → (listed.extract 0 n0).getD k false = listed.getD k false := by
    intro listed k hsz hk
    have h1 : k < (listed.extract 0 n0).size := by simp; omega
    have h2 : k < listed.size := by omega
    simp only [Array.getD_eq_getD_getElem?]
    rw [Array.getElem?_eq_getElem h1, Array.getElem?_eq_getElem h2, Array.getElem_extract]
    simp
  have setX : ∀ (listed : Array Bool) (i : Nat), listed.size = l.length → i < n0 → (listed.setIfInBounds i true).extract 0 n0 = (listed.extract 0 n0).setIfInBounds i true := by
    intro listed i hsz hi
    apply Array.ext_getElem?
    intro k
    have hs1 : ((listed.setIfInBounds i true).extract 0 n0).size = n0 := by simp; omega
    have hs2 : ((listed.extract 0 n0).setIfInBounds i true).size = n0 := by simp; omega
    by_cases hk : k < n0
    · rw [Array.getElem?_eq_getElem (by omega), Array.getElem?_eq_getElem (by omega), Array.getElem_extract, Array.getElem_setIfInBounds, Array.getElem_setIfInBounds, Array.getElem_extract]
      all_goals first | omega | (simp; done) | (simp; omega)
    · rw [Array.getElem?_eq_none (by omega), Array.getElem?_eq_none (by omega)]
  have allL : ∀ (listed : Array Bool), listed.size = l.length → Region.ready .any l.toArray listed = [] → ∀ k, k < n0 → listed.getD k false = true := by
    intro listed hls hr k
    induction k using Nat.strongRecOn with
    | _ k ih =>
      intro hk
      cases hc : listed.getD k false with
      | true => rfl
      | false =>
        exfalso
        have hkl : k < l.length := by omega
        have hok := opOk_of hB (i := k) (o := l[k]) (get_take hk (by simp [hkl]))
        have hmem : k ∈ Region.ready .any l.toArray listed := by
          rw [mem_ready]
          refine ⟨?_, l[k], by simp [hkl], fun e he hb => ?_⟩
          · have : k < listed.size := by omega
            simp [this] at hc ⊢; exact hc
          · have hd : e.on ∈ depsOf l[k] := by
              unfold depsOf
              rw [List.mem_filterMap]
              exact ⟨e, by simpa using he, by rw [hb]; rfl⟩
            simp only [opOk, Bool.and_eq_true, List.all_eq_true, decide_eq_true_eq] at hok
            have hlt := hok.1.1.2 _ hd
            exact ih _ hlt (by omega)
        rw [hr] at hmem
        cases hmem
  have fin : ∀ (listed : Array Bool) (a : Act) (w1 : World), OnWay Le (l.take n0) R a0 w (listed.extract 0 n0) a w1 → listed.size = l.length → (∀ k, k < n0 → listed.getD k false = true) → wpList P l.toArray Q (l.drop n0) a w1 := by
    intro listed a w1 inv hsz hall
    have hval := hfin w1 (fun j => match dstOf (l.take n0) j with | some d => a.tmps.getD d undef | none => undef) inv.le (fun i o hi hd => by
      obtain ⟨d, hd⟩ := Option.isSome_iff_exists.1 hd
      have : dstOf (l.take n0) i = some d := by simp only [dstOf, hi, Option.bind_some, hd]
      simp only [this]
      exact inv.known i o d hi (by rw [getX _ _ hsz (take_get hi).1]; exact hall i (take_get hi).1) hd)
    have e : a = putAll (fun j => match dstOf (l.take n0) j with | some d => a.tmps.getD d undef | none => undef) (l.take n0) 0 a0 := by
      refine act_ext (by rw [putAll_size, inv.tmps]) (by rw [putAll_defers, inv.defers]) fun t => ?_
      by_cases ht : ∃ (j : Nat) (o : Oper), (l.take n0)[j]? = some o ∧ o.dst = some t
      · obtain ⟨j, o, hj, hd⟩ := ht
        have hok := opOk_of hB hj
        have htn : t < n := by
          simp only [opOk, hd, Bool.and_eq_true, decide_eq_true_eq] at hok
          exact hok.1.1.1.2.1
        rw [putAll_at _ t (l.take n0) 0 a0 j o hj hd (by rw [hn]; exact htn) (fun j' o' hj' hne hd' => by
          have hok' := opOk_of hB hj'
          simp only [opOk, Bool.and_eq_true, List.all_eq_true] at hok'
          have h2 := hok'.2 j (List.mem_range.2 (List.getElem?_eq_some_iff.1 hj).1)
          have hdj : dstOf (l.take n0) j = some t := by simp only [dstOf, hj, Option.bind_some, hd]
          simp [hdj, hd', Ne.symm hne] at h2)]
        have hdj : dstOf (l.take n0) (0 + j) = some t := by rw [Nat.zero_add]; simp only [dstOf, hj, Option.bind_some, hd]
        simp only [hdj]
      · rw [putAll_other _ t (l.take n0) 0 a0 (fun o ho hd => ht (by
          obtain ⟨j, hj, e⟩ := List.getElem_of_mem ho
          exact ⟨j, o, by rw [List.getElem?_eq_getElem hj, e], hd⟩))]
        exact inv.rest t (fun j o hj _ hd => ht ⟨j, o, hj, hd⟩)
    rw [e]; exact hval
  have key : ∀ (f : Nat) (listed : Array Bool) (a : Act) (w1 : World), OnWay Le (l.take n0) R a0 w (listed.extract 0 n0) a w1 → HeadInv .any l.toArray n0 listed → cnt (fun k => listed.getD k false) n0 = f → wpAny P .any l.toArray Q (f + (l.length - n0)) listed a w1 := by
    intro f
    induction f with
    | zero =>
      intro listed a w1 inv hinv hc
      have hsz : listed.size = l.length := by rw [hinv.size, hsize]
      have hall := cnt_zero hc
      have hw := fin listed a w1 inv hsz hall
      have hld : listed = headDone l.length n0 := by
        apply Array.ext
        · simp [headDone, hsz]
        · intro k hk1 hk2
          have hkl : k < l.length := by omega
          by_cases hk : k < n0
          · have := hall k hk
            simp [hk1] at this
            simp [headDone, hk, this]
          · have := hinv.tail k (by omega) (by rw [hsize]; exact hkl)
            simp [hk1] at this
            simp [headDone, hk, this]
      have hdl : (l.drop n0).length = l.length - n0 := by simp
      have := wpAny_of_seq (P := P) (md := .any) (Q' := Q) (l.drop n0) n0 listed a w1 (fun j => by simp [List.getElem?_drop]) (by rw [hdl, hld]; exact hseq) hw
      rw [hdl] at this
      rw [Nat.zero_add]
      exact this
    | succ f ih =>
      intro listed a w1 inv hinv hc
      have hsz : listed.size = l.length := by rw [hinv.size, hsize]
      have hun : ∃ k, k < n0 ∧ listed.getD k false = false := by
        rcases Classical.em (∃ k, k < n0 ∧ listed.getD k false = false) with h | h
        · exact h
        · have hz : cnt (fun k => listed.getD k false) n0 = 0 := by
            have : cnt (fun k => listed.getD k false) n0 = cnt (fun _ => true) n0 := cnt_same fun k hk => by
              cases hx : listed.getD k false with
              | true => rfl
              | false => exact absurd ⟨k, hk, hx⟩ h
            rw [this]
            have : ∀ m, cnt (fun _ => true) m = 0 := fun m => by induction m with | zero => rfl | succ m ihm => simp [cnt, ihm]
            exact this n0
          omega
      obtain ⟨k0, hk0, hku⟩ := hun
      rw [show f + 1 + (l.length - n0) = (f + (l.length - n0)) + 1 by omega]
      refine ⟨fun hr => ?_, fun i hi => ?_⟩
      · have := allL listed hsz hr k0 hk0
        rw [hku] at this; cases this
      · have hin : i < n0 := by
          rcases Nat.lt_or_ge i n0 with h | h
          · exact h
          · exact absurd hi (tail_waits hsink hchain (by rw [hsize]; exact hn0) hinv (n0 - k0) k0 rfl hk0 (getD_in (by omega) hku) i h)
        obtain ⟨h1, o, ho, hdeps⟩ := mem_ready.1 hi
        have hil : l[i]? = some o := by simpa using ho
        have hio : (l.take n0)[i]? = some o := get_take hin hil
        have hls : i < listed.size := by omega
        have hunl : listed.getD i false = false := by simp [hls] at h1 ⊢; exact h1
        have hok := opOk_of hB hio
        have hdl : ∀ d ∈ depsOf o, listed.getD d false = true := by
          intro d hd
          unfold depsOf at hd
          obtain ⟨e, he, hb⟩ := List.mem_filterMap.1 hd
          split at hb
          · rename_i hbb
            cases hb
            exact hdeps e (by simpa using he) hbb
          · cases hb
        have hdlt : ∀ d ∈ depsOf o, d < n0 := by
          intro d hd
          simp only [opOk, Bool.and_eq_true, List.all_eq_true, decide_eq_true_eq] at hok
          have := hok.1.1.2 _ hd
          omega
        have hcnt : cnt (fun k => (listed.setIfInBounds i true).getD k false) n0 = f := by
          have := cnt_set (f := fun k => listed.getD k false) (g := fun k => (listed.setIfInBounds i true).getD k false) (i := i) (n := n0) hin hunl (fun k => by
            by_cases hk : i = k
            · subst hk; simp [hls]
            · have hk' : (k == i) = false := by simp; omega
              simp only [getD_set_ne false hk, hk', Bool.or_false])
          omega
        have hkn : ∀ t ∈ readsOf (l.take n0) o, knownOf (l.take n0) R a0 o t (a.eval (.tmp t)) w1 := by
          intro t ht
          show knownOf (l.take n0) R a0 o t (a.tmps.getD t undef) w1
          unfold knownOf
          cases hsrc : srcOf (l.take n0) o t with
          | some j =>
            have hj := List.mem_of_find?_eq_some hsrc
            have hjt := List.find?_some hsrc
            have hjd : dstOf (l.take n0) j = some t := by simpa using hjt
            unfold dstOf at hjd
            cases hlj : (l.take n0)[j]? with
            | none => rw [hlj] at hjd; simp at hjd
            | some oj =>
              rw [hlj] at hjd
              simp only [Option.bind_some] at hjd
              exact inv.known j oj t hlj (by rw [getX _ _ hsz (hdlt j hj)]; exact hdl j hj) hjd
          | none =>
            refine inv.rest t (fun j oj hlj hll hd => ?_)
            have hdj : dstOf (l.take n0) j = some t := by simp only [dstOf, hlj, Option.bind_some, hd]
            have hjn := (take_get hlj).1
            rw [getX _ _ hsz hjn] at hll
            have hne : j ≠ i := fun e => by subst e; rw [hunl] at hll; cases hll
            simp only [opOk, Bool.and_eq_true, List.all_eq_true] at hok
            have h2 := hok.2 j (List.mem_range.2 (List.getElem?_eq_some_iff.1 hlj).1)
            simp only [hdj, hlj] at h2
            have ht' : (readsOf (l.take n0) o).contains t = true := by simpa using ht
            simp [hne, ht] at h2
            rcases h2.2 with h3 | h3
            · have := List.find?_eq_none.1 hsrc j h3
              simp [hdj] at this
            · have := inv.closed j oj hlj (by rw [getX _ _ hsz hjn]; exact hll) i h3
              rw [getX _ _ hsz hin, hunl] at this; cases this
        have hsh := hs i o hio a.eval w1 ⟨fun _ => rfl, fun _ => rfl, fun _ => rfl⟩ inv.le (KnownAll.of hkn)
        have hwant : Region.wanted o (yielded l.toArray a.tmps) = wantedBy (l.take n0) o a.eval := by
          unfold Region.wanted wantedBy
          cases hg : o.guard with
          | none => rfl
          | some g =>
            obtain ⟨gj, gb⟩ := g
            simp only [yielded_eq]
            have hgd : gj ∈ depsOf o := by
              simp only [opOk, hg, Bool.and_eq_true] at hok
              have := hok.1.2.1
              simpa using this
            have : dstOf (l.take n0) gj = dstOf l gj := by
              unfold dstOf
              rw [List.getElem?_take, if_pos (hdlt gj hgd)]
            rw [this]
            rfl
        have step : ∀ v w2, Le w1 w2 → R i v w2 → wpAny P .any l.toArray Q (f + (l.length - n0)) (listed.setIfInBounds i true) (a.put o.dst v) w2 := by
          intro v w2 hle hv
          refine ih _ _ _ ?_ (hinv.set hi hin) hcnt
          rw [setX listed i hsz hin]
          have hset : ∀ j, j < n0 → ((listed.extract 0 n0).setIfInBounds i true).getD j false = true → j = i ∨ (listed.extract 0 n0).getD j false = true := fun j _ h => listed_set h
          refine ⟨by simp [inv.size], htrans _ _ _ inv.le hle, by rw [put_defers, inv.defers], by rw [put_size, inv.tmps], ?_, ?_, ?_⟩
          · intro j oj hj hl d hd
            rcases listed_set hl with rfl | hl
            · rw [hio] at hj; cases hj
              exact getD_set_true (by rw [getX _ _ hsz (hdlt d hd)]; exact hdl d hd)
            · exact getD_set_true (inv.closed j oj hj hl d hd)
          · intro j oj d hj hl hd
            rcases listed_set hl with rfl | hl2
            · rw [hio] at hj; cases hj
              have hdn : d < n := by
                simp only [opOk, hd, Bool.and_eq_true, decide_eq_true_eq] at hok
                exact hok.1.1.1.2.1
              rw [hd, put_same _ _ _ (by rw [inv.tmps, hn]; exact hdn)]
              exact hv
            · by_cases hji : j = i
              · subst hji; rw [getX _ _ hsz hin, hunl] at hl2; cases hl2
              · rw [put_other _ _ _ _ (fun hd' => by
                  simp only [opOk, Bool.and_eq_true, List.all_eq_true] at hok
                  have h2 := hok.2 j (List.mem_range.2 (List.getElem?_eq_some_iff.1 hj).1)
                  have hdj : dstOf (l.take n0) j = some d := by simp only [dstOf, hj, Option.bind_some, hd]
                  simp [hdj, hd', hji] at h2)]
                exact hst j _ _ _ (inv.known j oj d hj hl2 hd) hle
          · intro t ht
            have hii : i < (listed.extract 0 n0).size := by simp; omega
            have h1 : o.dst ≠ some t := ht i o hio (by simp at hii; simp; omega)
            rw [put_other _ _ _ _ h1]
            exact inv.rest t (fun j oj hj hl => ht j oj hj (getD_set_true hl))
        unfold wpOp
        simp only [ho, hwant]
        split
        · rename_i hw
          rw [hw] at hsh
          simp only [if_true] at hsh
          left
          unfold Oper.wp
          generalize (execOp a.eval o).run P w1 = r at hsh
          cases r with
          | halt x w' => exact hsh.elim
          | ok nx w' =>
            cases nx with
            | value v => exact step v w' hsh.1 hsh.2
            | skip => exact step undef w' hsh.1 hsh.2
            | enter f args =>
              obtain ⟨h2, h3⟩ := hsh
              exact h3.mono fun e w'' ⟨v, he, hle, hv⟩ => by subst he; exact step v w'' (htrans _ _ _ h2 hle) hv
            | _ => exact hsh.elim
        · rename_i hw
          simp only [Bool.not_eq_true] at hw
          rw [hw] at hsh
          exact step undef w1 (hrefl _) (by simpa using hsh)
  refine wp_region_any hm ?_
  have inv0 : HeadInv .any l.toArray n0 (Array.replicate l.toArray.size false) :=
    ⟨by simp, fun j oj _ hl => (by rw [Go.getD_replicate_false] at hl; cases hl), fun t _ ht => getD_in (by simpa using ht) (Go.getD_replicate_false _ _)⟩
  have hgx : ∀ j, ((Array.replicate l.toArray.size false).extract 0 n0).getD j false = false := by
    intro j
    by_cases hj : j < n0
    · rw [getX _ _ (by simp) hj]; exact Go.getD_replicate_false _ _
    · simp
      rw [← Array.getD_eq_getD_getElem?]
      exact Go.getD_replicate_false _ _
  have hc0 : cnt (fun k => (Array.replicate l.toArray.size false).getD k false) n0 = n0 := by
    have : cnt (fun k => (Array.replicate l.toArray.size false).getD k false) n0 = cnt (fun _ => false) n0 := cnt_same fun k _ => Go.getD_replicate_false _ _
    rw [this]
    have : ∀ m, cnt (fun _ => false) m = m := fun m => by induction m with | zero => rfl | succ m ihm => simp [cnt, ihm]
    exact this n0
  have := key n0 (Array.replicate l.toArray.size false) a0 w.drew ⟨by simp, hdrew w, rfl, rfl, fun j o _ hl => (by rw [hgx] at hl; cases hl), fun j o d _ hl => (by rw [hgx] at hl; cases hl), fun _ _ => rfl⟩ inv0 hc0
  rw [show n0 + (l.length - n0) = l.toArray.size by rw [hsize]; omega] at this
  exact this
theorem region_tail_gr {id : Nat} {Q : Exit → Act → World → Prop} {a0 : Act} {w : World} {l : List Oper} (n0 n : Nat) (Rs : List (Value → World → Prop))
    (hm : P.follows .mixedOrders = true) (hB : anyB (l.take n0) n = true) (hT : tailB l n0 = true) (hd : (l.take n0).all (·.dst.isSome) = true) (hlen : Rs.length = (l.take n0).length) (hn : a0.tmps.size = n) (hst : AllStable Gr Rs)
    (hs : AllShown P Gr (l.take n0) Rs a0 w (l.take n0) 0) (hfin : ∀ w1 val, Gr w w1 → Holds val w1 Rs 0 → wpList P l.toArray Q (l.drop n0) (putAll val (l.take n0) 0 a0) w1) : (Code.region id l.toArray true).wp P Q a0 w :=
  region_any_tail Gr.refl (fun _ _ _ => Gr.trans) Gr.drew n0 n (nth Rs) hm hB hT hn (fun i v w1 w2 => hst.get i v w1 w2) (fun i o hi => by simpa using hs.get i o hi)
    (fun w1 val hg h => hfin w1 val hg (Holds.of fun i hi => by
      have hi' : i < (l.take n0).length := by omega
      rw [Nat.zero_add]
      exact h i (l.take n0)[i] (by rw [List.getElem?_eq_getElem hi']) (List.all_eq_true.1 hd _ (List.getElem_mem hi'))))
end
end Go.Proofs.Ytfnimpgphagnfaa
