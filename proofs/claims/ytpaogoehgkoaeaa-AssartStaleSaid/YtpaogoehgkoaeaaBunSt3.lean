/- A region that draws its order, in which rows of the call's own get their last contents, wherever the stores stand. No program is in sight here. -/
import Derived.Test.YtpaogoehgkoaeaaBunSt0
import Derived.Test.YtpaogoehgkoaeaaBunSt1
import Derived.Test.YtpaogoehgkoaeaaBunSt2
import Derived.Deep.MidRow
import Derived.Deep.LoopGhost
/- A region that draws its order, and stores somewhere on the way: what each operation shows is kept, a store's too. No program is in sight here. -/
namespace Go.Proofs.Ytpaogoehgkoaeaa
set_option linter.unusedVariables false
set_option linter.unusedSimpArgs false
open Go.RowKit
section
variable {P : Program}
/-- what holds on the way -/
structure OnWayS (Le : World → World → Prop) (ops : List Oper) (R : Nat → Value → World → Prop) (a0 : Act) (w0 : World) (listed : Array Bool) (a : Act) (w : World) : Prop where
  size : listed.size = ops.length
  le : Le w0 w
  defers : a.defers = a0.defers
  tmps : a.tmps.size = a0.tmps.size
  closed : ∀ j o, ops[j]? = some o → listed.getD j false = true → ∀ d ∈ depsOf o, listed.getD d false = true
  known : ∀ j o, ops[j]? = some o → listed.getD j false = true → ∃ v, R j v w ∧ ∀ d, o.dst = some d → a.tmps.getD d undef = v
  rest : ∀ t, (∀ j o, ops[j]? = some o → listed.getD j false = true → o.dst ≠ some t) → a.tmps.getD t undef = a0.tmps.getD t undef

theorem region_any_store {Le : World → World → Prop} (hrefl : ∀ w, Le w w) (htrans : ∀ a b c, Le a b → Le b c → Le a c) (hdrew : ∀ w, Le w w.drew) {id : Nat} {Q : Exit → Act → World → Prop} {a0 : Act} {w : World} {l : List Oper} (n : Nat) (R : Nat → Value → World → Prop)
    (hm : P.follows .mixedOrders = true) (hB : anyB l n = true) (hn : a0.tmps.size = n) (hst : ∀ i v w1 w2, R i v w1 → Le w1 w2 → R i v w2)
    (hs : ∀ i o, l[i]? = some o → Shown P Le l R a0 w i o)
    (hfin : ∀ w1 val, Le w w1 → (∀ i o, l[i]? = some o → ∃ v, R i v w1 ∧ (o.dst.isSome = true → val i = v)) → Q .normal (putAll val l 0 a0) w1) : (Code.region id l.toArray true).wp P Q a0 w := by
  have hsize : l.toArray.size = l.length := by simp
  have allL : ∀ (listed : Array Bool), listed.size = l.length → Region.ready .any l.toArray listed = [] → ∀ k, k < l.length → listed.getD k false = true := by
    intro listed hls hr k
    induction k using Nat.strongRecOn with
    | _ k ih =>
      intro hk
      cases hc : listed.getD k false with
      | true => rfl
      | false =>
        exfalso
        have hok := opOk_of hB (i := k) (o := l[k]) (by simp [hk])
        have hmem : k ∈ Region.ready .any l.toArray listed := by
          rw [mem_ready]
          refine ⟨?_, l[k], by simp [hk], fun e he hb => ?_⟩
          · have : k < listed.size := by omega
            simp [this] at hc ⊢; exact hc
          · have hd : e.on ∈ depsOf l[k] := by
              unfold depsOf
              rw [List.mem_filterMap]
              exact ⟨e, by simpa using he, by rw [hb]; rfl⟩
            simp only [opOk, Bool.and_eq_true, List.all_eq_true, decide_eq_true_eq] at hok
            have hlt := hok.1.1.2 _ hd
            exact ih _ hlt (by omega)
        rw [hr] at hmem
        cases hmem
  have fin : ∀ (listed : Array Bool) (a : Act) (w1 : World), OnWayS Le l R a0 w listed a w1 → (∀ k, k < l.length → listed.getD k false = true) → Q .normal a w1 := by
    intro listed a w1 inv hall
    have hval := hfin w1 (fun j => match dstOf l j with | some d => a.tmps.getD d undef | none => undef) inv.le (fun i o hi => by
      obtain ⟨v, hv, he⟩ := inv.known i o hi (hall i (List.getElem?_eq_some_iff.1 hi).1)
      refine ⟨v, hv, fun hd => ?_⟩
      obtain ⟨d, hd⟩ := Option.isSome_iff_exists.1 hd
      have : dstOf l i = some d := by simp [dstOf, hi, hd]
      simp only [this]
      exact he d hd)
    have e : a = putAll (fun j => match dstOf l j with | some d => a.tmps.getD d undef | none => undef) l 0 a0 := by
      refine act_ext (by rw [putAll_size, inv.tmps]) (by rw [putAll_defers, inv.defers]) fun t => ?_
      by_cases ht : ∃ (j : Nat) (o : Oper), l[j]? = some o ∧ o.dst = some t
      · obtain ⟨j, o, hj, hd⟩ := ht
        have hok := opOk_of hB hj
        have htn : t < n := by
          simp only [opOk, hd, Bool.and_eq_true, decide_eq_true_eq] at hok
          exact hok.1.1.1.2.1
        rw [putAll_at _ t l 0 a0 j o hj hd (by rw [hn]; exact htn) (fun j' o' hj' hne hd' => by
          have hok' := opOk_of hB hj'
          simp only [opOk, Bool.and_eq_true, List.all_eq_true] at hok'
          have h2 := hok'.2 j (List.mem_range.2 (List.getElem?_eq_some_iff.1 hj).1)
          have hdj : dstOf l j = some t := by simp [dstOf, hj, hd]
          simp [hdj, hd', Ne.symm hne] at h2)]
        have hdj : dstOf l (0 + j) = some t := by simp [dstOf, hj, hd]
        simp only [hdj]
      · rw [putAll_other _ t l 0 a0 (fun o ho hd => ht (by
          obtain ⟨j, hj, e⟩ := List.getElem_of_mem ho
          exact ⟨j, o, by simp [hj, e], hd⟩))]
        exact inv.rest t (fun j o hj _ hd => ht ⟨j, o, hj, hd⟩)
    rw [e]; exact hval
  have key : ∀ (fuel : Nat) (listed : Array Bool) (a : Act) (w1 : World), OnWayS Le l R a0 w listed a w1 → cnt (fun k => listed.getD k false) l.length ≤ fuel → wpAny P .any l.toArray Q fuel listed a w1 := by
    intro fuel
    induction fuel with
    | zero =>
      intro listed a w1 inv hc
      have hall := cnt_zero (by omega : cnt (fun k => listed.getD k false) l.length = 0)
      refine ⟨?_, fin listed a w1 inv hall⟩
      rw [List.eq_nil_iff_forall_not_mem]
      intro j hj
      obtain ⟨h1, o, ho, _⟩ := mem_ready.1 hj
      have hlt : j < l.length := by
        have := (Array.getElem?_eq_some_iff.1 ho).1
        simpa using this
      have h2 := hall j hlt
      have : j < listed.size := by rw [inv.size]; exact hlt
      simp [this] at h1 h2
      rw [h1] at h2; cases h2
    | succ fuel ih =>
      intro listed a w1 inv hc
      refine ⟨fun hr => fin listed a w1 inv (allL listed inv.size hr), fun i hi => ?_⟩
      obtain ⟨h1, o, ho, hdeps⟩ := mem_ready.1 hi
      have hio : l[i]? = some o := by simpa using ho
      have hlt : i < l.length := (List.getElem?_eq_some_iff.1 hio).1
      have hls : i < listed.size := by rw [inv.size]; exact hlt
      have hun : listed.getD i false = false := by simp [hls] at h1 ⊢; exact h1
      have hok := opOk_of hB hio
      have hdl : ∀ d ∈ depsOf o, listed.getD d false = true := by
        intro d hd
        unfold depsOf at hd
        obtain ⟨e, he, hb⟩ := List.mem_filterMap.1 hd
        split at hb
        · rename_i hbb
          cases hb
          exact hdeps e (by simpa using he) hbb
        · cases hb
      have hcnt : cnt (fun k => (listed.setIfInBounds i true).getD k false) l.length ≤ fuel := by
        have := cnt_set (f := fun k => listed.getD k false) (g := fun k => (listed.setIfInBounds i true).getD k false) (i := i) (n := l.length) hlt hun (fun k => by
          by_cases hk : i = k
          · subst hk; simp [hls]
          · have hk' : (k == i) = false := by simp; omega
            simp only [getD_set_ne false hk, hk', Bool.or_false])
        omega
      have hkn : ∀ t ∈ readsOf l o, knownOf l R a0 o t (a.eval (.tmp t)) w1 := by
        intro t ht
        show knownOf l R a0 o t (a.tmps.getD t undef) w1
        unfold knownOf
        cases hsrc : srcOf l o t with
        | some j =>
          have hj := List.mem_of_find?_eq_some hsrc
          have hjt := List.find?_some hsrc
          have hjd : dstOf l j = some t := by simpa using hjt
          unfold dstOf at hjd
          cases hlj : l[j]? with
          | none => simp [hlj] at hjd
          | some oj =>
            simp [hlj] at hjd
            obtain ⟨v, hv, he⟩ := inv.known j oj hlj (hdl j hj)
            show R j (a.tmps.getD t undef) w1
            rw [he t hjd]; exact hv
        | none =>
          refine inv.rest t (fun j oj hlj hll hd => ?_)
          have hdj : dstOf l j = some t := by simp [dstOf, hlj, hd]
          have hne : j ≠ i := fun e => by subst e; rw [hun] at hll; cases hll
          simp only [opOk, Bool.and_eq_true, List.all_eq_true] at hok
          have h2 := hok.2 j (List.mem_range.2 (List.getElem?_eq_some_iff.1 hlj).1)
          simp only [hdj, hlj] at h2
          have ht' : (readsOf l o).contains t = true := by simpa using ht
          simp [hne, ht] at h2
          rcases h2.2 with h3 | h3
          · have := List.find?_eq_none.1 hsrc j h3
            simp [hdj] at this
          · have := inv.closed j oj hlj hll i h3
            rw [hun] at this; cases this
      have hsh := hs i o hio a.eval w1 ⟨fun _ => rfl, fun _ => rfl, fun _ => rfl⟩ inv.le (KnownAll.of hkn)
      have hwant : Region.wanted o (yielded l.toArray a.tmps) = wantedBy l o a.eval := by
        unfold Region.wanted wantedBy
        cases o.guard with
        | none => rfl
        | some g => simp only [yielded_eq]; rfl
      have step : ∀ v w2, Le w1 w2 → R i v w2 → wpAny P .any l.toArray Q fuel (listed.setIfInBounds i true) (a.put o.dst v) w2 := by
        intro v w2 hle hv
        refine ih _ _ _ ⟨by simp [inv.size], htrans _ _ _ inv.le hle, by rw [put_defers, inv.defers], by rw [put_size, inv.tmps], ?_, ?_, ?_⟩ hcnt
        · intro j oj hj hl d hd
          rcases listed_set hl with rfl | hl
          · rw [hio] at hj; cases hj
            exact getD_set_true (hdl d hd)
          · exact getD_set_true (inv.closed j oj hj hl d hd)
        · intro j oj hj hl
          rcases listed_set hl with rfl | hl2
          · rw [hio] at hj; cases hj
            refine ⟨v, hv, fun d hd => ?_⟩
            have hdn : d < n := by
              simp only [opOk, hd, Bool.and_eq_true, decide_eq_true_eq] at hok
              exact hok.1.1.1.2.1
            rw [hd, put_same _ _ _ (by rw [inv.tmps, hn]; exact hdn)]
          · by_cases hji : j = i
            · subst hji; rw [hun] at hl2; cases hl2
            · obtain ⟨v', hv', he'⟩ := inv.known j oj hj hl2
              refine ⟨v', hst j _ _ _ hv' hle, fun d hd => ?_⟩
              rw [put_other _ _ _ _ (fun hd' => by
                simp only [opOk, Bool.and_eq_true, List.all_eq_true] at hok
                have h2 := hok.2 j (List.mem_range.2 (List.getElem?_eq_some_iff.1 hj).1)
                have hdj : dstOf l j = some d := by simp [dstOf, hj, hd]
                simp [hdj, hd', hji] at h2)]
              exact he' d hd
        · intro t ht
          have h1 : o.dst ≠ some t := ht i o hio (by simp [hls])
          rw [put_other _ _ _ _ h1]
          exact inv.rest t (fun j oj hj hl => ht j oj hj (getD_set_true hl))
      unfold wpOp
      simp only [ho, hwant]
      split
      · rename_i hw
        rw [hw] at hsh
        simp only [if_true] at hsh
        left
        unfold Oper.wp
        generalize (execOp a.eval o).run P w1 = r at hsh
        cases r with
        | halt x w' => exact hsh.elim
        | ok nx w' =>
          cases nx with
          | value v => exact step v w' hsh.1 hsh.2
          | skip => exact step undef w' hsh.1 hsh.2
          | enter f args =>
            obtain ⟨h2, h3⟩ := hsh
            exact h3.mono fun e w'' ⟨v, he, hle, hv⟩ => by subst he; exact step v w'' (htrans _ _ _ h2 hle) hv
          | _ => exact hsh.elim
      · rename_i hw
        simp only [Bool.not_eq_true] at hw
        rw [hw] at hsh
        exact step undef w1 (hrefl _) (by simpa using hsh)
  refine wp_region_any hm ?_
  refine key l.toArray.size (Array.replicate l.toArray.size false) a0 w.drew ⟨by rw [Array.size_replicate, hsize], hdrew w, rfl, rfl, ?_, ?_, ?_⟩ ?_
  · intro j o _ hl; rw [getD_replicate_false'] at hl; cases hl
  · intro j o _ hl; rw [getD_replicate_false'] at hl; cases hl
  · intro t _; rfl
  · show cnt _ l.length ≤ l.toArray.size
    rw [hsize]; exact cnt_le _ _

theorem putAll_congr {f g : Nat → Value} : ∀ (l : List Oper) (k : Nat) (a : Act), (∀ i o, l[i]? = some o → o.dst.isSome = true → f (k + i) = g (k + i)) → putAll f l k a = putAll g l k a
  | [], _, _, _ => rfl
  | o :: r, k, a, h => by
    rw [putAll, putAll]
    have e : a.put o.dst (f k) = a.put o.dst (g k) := by
      cases hd : o.dst with
      | none => rfl
      | some d =>
        have := h 0 o rfl (by rw [hd]; rfl)
        rw [Nat.add_zero] at this
        rw [this]
    rw [e]
    exact putAll_congr r (k + 1) _ fun i o' hi hd => by
      have := h (i + 1) o' (by simpa using hi) hd
      rwa [show k + (i + 1) = k + 1 + i by omega] at this
/-- a store that was done -/
def StoredB (row : Option Nat) (B : Option Obj) : Value → World → Prop := fun _ w => ∀ g, row = some g → w.heap[g]? = B
theorem StoredB.stable {row : Option Nat} {A B : Option Obj} : Stable (Once row A B) (StoredB row B) := by
  intro v w1 w2 h k g hg
  rcases k.2 g hg with h1 | ⟨_, h1⟩
  · rw [h1]; exact h g hg
  · exact h1
theorem region_store_once {id : Nat} {Q : Exit → Act → World → Prop} {a0 : Act} {w : World} {l : List Oper} (row : Option Nat) (A B : Option Obj) (n : Nat) (Rs : List (Value → World → Prop))
    (hm : P.follows .mixedOrders = true) (hB : anyB l n = true) (_ : true = true) (hlen : Rs.length = l.length) (hn : a0.tmps.size = n) (hst : AllStable (Once row A B) Rs)
    (hs : AllShown P (Once row A B) l Rs a0 w l 0) (hfin : ∀ w1 val, Once row A B w w1 → Holds val w1 Rs 0 → Q .normal (putAll val l 0 a0) w1) : (Code.region id l.toArray true).wp P Q a0 w :=
  region_any_store Once.refl (fun _ _ _ => Once.trans) Once.drew n (nth Rs) hm hB hn (fun i v w1 w2 => hst.get i v w1 w2) (fun i o hi => by simpa using hs.get i o hi)
    (fun w1 val hg h => by
      have hex : ∀ i, ∃ v, (i < l.length → nth Rs i v w1) ∧ ∀ o, l[i]? = some o → o.dst.isSome = true → val i = v := by
        intro i
        by_cases hi : i < l.length
        · obtain ⟨v, hv, he⟩ := h i l[i] (by simp [hi])
          exact ⟨v, fun _ => hv, fun o ho hd => by rw [List.getElem?_eq_getElem hi] at ho; cases ho; exact he hd⟩
        · exact ⟨undef, fun h => absurd h hi, fun o ho => by rw [List.getElem?_eq_none (by omega)] at ho; cases ho⟩
      obtain ⟨val2, h2⟩ := Classical.axiomOfChoice hex
      rw [putAll_congr (f := val) (g := val2) l 0 a0 fun i o hi hd => by rw [Nat.zero_add]; exact (h2 i).2 o hi hd]
      exact hfin w1 val2 hg (Holds.of fun i hi => by rw [Nat.zero_add]; exact (h2 i).1 (by omega)))
end
end Go.Proofs.Ytpaogoehgkoaeaa
/- A region that draws its order, in which one operation (a store) ends a phase: what is needed ahead of it is known to be done in that phase. No program is in sight here. -/
namespace Go.Proofs.Ytpaogoehgkoaeaa
set_option linter.unusedVariables false
set_option linter.unusedSimpArgs false
open Go.RowKit
section
variable {P : Program}
/-- a step, that keeps the phase if it is to -/
def LeP (Le : World → World → Prop) (Pre : World → Prop) (keep : Bool) (w w' : World) : Prop := Le w w' ∧ (keep = true → Pre w → Pre w')
/-- is done ahead of operation s, or is it -/
def preB (l : List Oper) (s i : Nat) : Bool := i == s || (match l[s]? with | some o => (depsOf o).contains i | none => false)
def ShownP (P : Program) (Le : World → World → Prop) (Pre : World → Prop) (ops : List Oper) (s : Nat) (R : Nat → Value → World → Prop) (a0 : Act) (w0 : World) (i : Nat) (o : Oper) : Prop :=
  ∀ ρ w, Ev ρ → (Le w0 w ∧ (preB ops s i = true → Pre w)) → KnownAll ops R a0 o ρ w (readsOf ops o) →
    if wantedBy ops o ρ then growUpon P (LeP Le Pre (i != s)) w (R i) ((execOp ρ o).run P w) else R i undef w
def AllShownP (P : Program) (Le : World → World → Prop) (Pre : World → Prop) (ops : List Oper) (s : Nat) (Rs : List (Value → World → Prop)) (a0 : Act) (w0 : World) : List Oper → Nat → Prop
  | [], _ => True
  | o :: r, i => ShownP P Le Pre ops s (nth Rs) a0 w0 i o ∧ AllShownP P Le Pre ops s Rs a0 w0 r (i + 1)
theorem AllShownP.get {Le : World → World → Prop} {Pre : World → Prop} {ops : List Oper} {s : Nat} {Rs : List (Value → World → Prop)} {a0 : Act} {w0 : World} : ∀ {l : List Oper} {k : Nat}, AllShownP P Le Pre ops s Rs a0 w0 l k → ∀ i o, l[i]? = some o → ShownP P Le Pre ops s (nth Rs) a0 w0 (k + i) o
  | [], _, _, i, o, hi => by simp at hi
  | x :: r, k, h, 0, o, hi => by simp at hi; subst hi; exact h.1
  | x :: r, k, h, i + 1, o, hi => by
    have := h.2.get i o (by simpa using hi)
    rwa [show k + 1 + i = k + (i + 1) by omega] at this
@[go_sem] theorem leP_same {Le : World → World → Prop} {Pre : World → Prop} {k : Bool} {w : World} (h : Le w w) : LeP Le Pre k w w ↔ True := ⟨fun _ => trivial, fun _ => ⟨h, fun _ x => x⟩⟩
/-- what holds on the way -/
structure OnWayP (Pre : World → Prop) (s : Nat) (Le : World → World → Prop) (ops : List Oper) (R : Nat → Value → World → Prop) (a0 : Act) (w0 : World) (listed : Array Bool) (a : Act) (w : World) : Prop where
  size : listed.size = ops.length
  le : Le w0 w
  defers : a.defers = a0.defers
  tmps : a.tmps.size = a0.tmps.size
  closed : ∀ j o, ops[j]? = some o → listed.getD j false = true → ∀ d ∈ depsOf o, listed.getD d false = true
  known : ∀ j o, ops[j]? = some o → listed.getD j false = true → ∃ v, R j v w ∧ ∀ d, o.dst = some d → a.tmps.getD d undef = v
  pre : listed.getD s false = false → Pre w
  rest : ∀ t, (∀ j o, ops[j]? = some o → listed.getD j false = true → o.dst ≠ some t) → a.tmps.getD t undef = a0.tmps.getD t undef

theorem region_any_phase {Pre : World → Prop} (s : Nat) {Le : World → World → Prop} (hrefl : ∀ w, Le w w) (htrans : ∀ a b c, Le a b → Le b c → Le a c) (hdrew : ∀ w, Le w w.drew) {id : Nat} {Q : Exit → Act → World → Prop} {a0 : Act} {w : World} {l : List Oper} (n : Nat) (R : Nat → Value → World → Prop)
    (hm : P.follows .mixedOrders = true) (hB : anyB l n = true) (hn : a0.tmps.size = n) (hst : ∀ i v w1 w2, R i v w1 → Le w1 w2 → R i v w2)
    (hp0 : Pre w.drew) (hs : ∀ i o, l[i]? = some o → ShownP P Le Pre l s R a0 w i o)
    (hfin : ∀ w1 val, Le w w1 → (∀ i o, l[i]? = some o → ∃ v, R i v w1 ∧ (o.dst.isSome = true → val i = v)) → Q .normal (putAll val l 0 a0) w1) : (Code.region id l.toArray true).wp P Q a0 w := by
  have hsize : l.toArray.size = l.length := by simp
  have allL : ∀ (listed : Array Bool), listed.size = l.length → Region.ready .any l.toArray listed = [] → ∀ k, k < l.length → listed.getD k false = true := by
    intro listed hls hr k
    induction k using Nat.strongRecOn with
    | _ k ih =>
      intro hk
      cases hc : listed.getD k false with
      | true => rfl
      | false =>
        exfalso
        have hok := opOk_of hB (i := k) (o := l[k]) (by simp [hk])
        have hmem : k ∈ Region.ready .any l.toArray listed := by
          rw [mem_ready]
          refine ⟨?_, l[k], by simp [hk], fun e he hb => ?_⟩
          · have : k < listed.size := by omega
            simp [this] at hc ⊢; exact hc
          · have hd : e.on ∈ depsOf l[k] := by
              unfold depsOf
              rw [List.mem_filterMap]
              exact ⟨e, by simpa using he, by rw [hb]; rfl⟩
            simp only [opOk, Bool.and_eq_true, List.all_eq_true, decide_eq_true_eq] at hok
            have hlt := hok.1.1.2 _ hd
            exact ih _ hlt (by omega)
        rw [hr] at hmem
        cases hmem
  have fin : ∀ (listed : Array Bool) (a : Act) (w1 : World), OnWayP Pre s Le l R a0 w listed a w1 → (∀ k, k < l.length → listed.getD k false = true) → Q .normal a w1 := by
    intro listed a w1 inv hall
    have hval := hfin w1 (fun j => match dstOf l j with | some d => a.tmps.getD d undef | none => undef) inv.le (fun i o hi => by
      obtain ⟨v, hv, he⟩ := inv.known i o hi (hall i (List.getElem?_eq_some_iff.1 hi).1)
      refine ⟨v, hv, fun hd => ?_⟩
      obtain ⟨d, hd⟩ := Option.isSome_iff_exists.1 hd
      have : dstOf l i = some d := by simp [dstOf, hi, hd]
      simp only [this]
      exact he d hd)
    have e : a = putAll (fun j => match dstOf l j with | some d => a.tmps.getD d undef | none => undef) l 0 a0 := by
      refine act_ext (by rw [putAll_size, inv.tmps]) (by rw [putAll_defers, inv.defers]) fun t => ?_
      by_cases ht : ∃ (j : Nat) (o : Oper), l[j]? = some o ∧ o.dst = some t
      · obtain ⟨j, o, hj, hd⟩ := ht
        have hok := opOk_of hB hj
        have htn : t < n := by
          simp only [opOk, hd, Bool.and_eq_true, decide_eq_true_eq] at hok
          exact hok.1.1.1.2.1
        rw [putAll_at _ t l 0 a0 j o hj hd (by rw [hn]; exact htn) (fun j' o' hj' hne hd' => by
          have hok' := opOk_of hB hj'
          simp only [opOk, Bool.and_eq_true, List.all_eq_true] at hok'
          have h2 := hok'.2 j (List.mem_range.2 (List.getElem?_eq_some_iff.1 hj).1)
          have hdj : dstOf l j = some t := by simp [dstOf, hj, hd]
          simp [hdj, hd', Ne.symm hne] at h2)]
        have hdj : dstOf l (0 + j) = some t := by simp [dstOf, hj, hd]
        simp only [hdj]
      · rw [putAll_other _ t l 0 a0 (fun o ho hd => ht (by
          obtain ⟨j, hj, e⟩ := List.getElem_of_mem ho
          exact ⟨j, o, by simp [hj, e], hd⟩))]
        exact inv.rest t (fun j o hj _ hd => ht ⟨j, o, hj, hd⟩)
    rw [e]; exact hval
  have key : ∀ (fuel : Nat) (listed : Array Bool) (a : Act) (w1 : World), OnWayP Pre s Le l R a0 w listed a w1 → cnt (fun k => listed.getD k false) l.length ≤ fuel → wpAny P .any l.toArray Q fuel listed a w1 := by
    intro fuel
    induction fuel with
    | zero =>
      intro listed a w1 inv hc
      have hall := cnt_zero (by omega : cnt (fun k => listed.getD k false) l.length = 0)
      refine ⟨?_, fin listed a w1 inv hall⟩
      rw [List.eq_nil_iff_forall_not_mem]
      intro j hj
      obtain ⟨h1, o, ho, _⟩ := mem_ready.1 hj
      have hlt : j < l.length := by
        have := (Array.getElem?_eq_some_iff.1 ho).1
        simpa using this
      have h2 := hall j hlt
      have : j < listed.size := by rw [inv.size]; exact hlt
      simp [this] at h1 h2
      rw [h1] at h2; cases h2
    | succ fuel ih =>
      intro listed a w1 inv hc
      refine ⟨fun hr => fin listed a w1 inv (allL listed inv.size hr), fun i hi => ?_⟩
      obtain ⟨h1, o, ho, hdeps⟩ := mem_ready.1 hi
      have hio : l[i]? = some o := by simpa using ho
      have hlt : i < l.length := (List.getElem?_eq_some_iff.1 hio).1
      have hls : i < listed.size := by rw [inv.size]; exact hlt
      have hun : listed.getD i false = false := by simp [hls] at h1 ⊢; exact h1
      have hok := opOk_of hB hio
      have hdl : ∀ d ∈ depsOf o, listed.getD d false = true := by
        intro d hd
        unfold depsOf at hd
        obtain ⟨e, he, hb⟩ := List.mem_filterMap.1 hd
        split at hb
        · rename_i hbb
          cases hb
          exact hdeps e (by simpa using he) hbb
        · cases hb
      have hcnt : cnt (fun k => (listed.setIfInBounds i true).getD k false) l.length ≤ fuel := by
        have := cnt_set (f := fun k => listed.getD k false) (g := fun k => (listed.setIfInBounds i true).getD k false) (i := i) (n := l.length) hlt hun (fun k => by
          by_cases hk : i = k
          · subst hk; simp [hls]
          · have hk' : (k == i) = false := by simp; omega
            simp only [getD_set_ne false hk, hk', Bool.or_false])
        omega
      have hkn : ∀ t ∈ readsOf l o, knownOf l R a0 o t (a.eval (.tmp t)) w1 := by
        intro t ht
        show knownOf l R a0 o t (a.tmps.getD t undef) w1
        unfold knownOf
        cases hsrc : srcOf l o t with
        | some j =>
          have hj := List.mem_of_find?_eq_some hsrc
          have hjt := List.find?_some hsrc
          have hjd : dstOf l j = some t := by simpa using hjt
          unfold dstOf at hjd
          cases hlj : l[j]? with
          | none => simp [hlj] at hjd
          | some oj =>
            simp [hlj] at hjd
            obtain ⟨v, hv, he⟩ := inv.known j oj hlj (hdl j hj)
            show R j (a.tmps.getD t undef) w1
            rw [he t hjd]; exact hv
        | none =>
          refine inv.rest t (fun j oj hlj hll hd => ?_)
          have hdj : dstOf l j = some t := by simp [dstOf, hlj, hd]
          have hne : j ≠ i := fun e => by subst e; rw [hun] at hll; cases hll
          simp only [opOk, Bool.and_eq_true, List.all_eq_true] at hok
          have h2 := hok.2 j (List.mem_range.2 (List.getElem?_eq_some_iff.1 hlj).1)
          simp only [hdj, hlj] at h2
          have ht' : (readsOf l o).contains t = true := by simpa using ht
          simp [hne, ht] at h2
          rcases h2.2 with h3 | h3
          · have := List.find?_eq_none.1 hsrc j h3
            simp [hdj] at this
          · have := inv.closed j oj hlj hll i h3
            rw [hun] at this; cases this
      have hls2 : s < listed.size → listed.getD s false = false → listed[s]?.getD false = false := fun h1 h2 => by simpa using h2
      have hpre : preB l s i = true → Pre w1 := by
        intro hb
        refine inv.pre ?_
        cases hc : listed.getD s false with
        | false => rfl
        | true =>
          exfalso
          simp only [preB, Bool.or_eq_true, beq_iff_eq] at hb
          rcases hb with rfl | hb
          · rw [hun] at hc; cases hc
          · cases hos : l[s]? with
            | none => rw [hos] at hb; cases hb
            | some os =>
              rw [hos] at hb
              have := inv.closed s os hos hc i (by simpa using hb)
              rw [hun] at this; cases this
      have hsh := hs i o hio a.eval w1 ⟨fun _ => rfl, fun _ => rfl, fun _ => rfl⟩ ⟨inv.le, hpre⟩ (KnownAll.of hkn)
      have hwant : Region.wanted o (yielded l.toArray a.tmps) = wantedBy l o a.eval := by
        unfold Region.wanted wantedBy
        cases o.guard with
        | none => rfl
        | some g => simp only [yielded_eq]; rfl
      have step : ∀ v w2, LeP Le Pre (i != s) w1 w2 → R i v w2 → wpAny P .any l.toArray Q fuel (listed.setIfInBounds i true) (a.put o.dst v) w2 := by
        intro v w2 hle2 hv
        have hle := hle2.1
        refine ih _ _ _ ⟨by simp [inv.size], htrans _ _ _ inv.le hle, by rw [put_defers, inv.defers], by rw [put_size, inv.tmps], ?_, ?_, ?_, ?_⟩ hcnt
        · intro j oj hj hl d hd
          rcases listed_set hl with rfl | hl
          · rw [hio] at hj; cases hj
            exact getD_set_true (hdl d hd)
          · exact getD_set_true (inv.closed j oj hj hl d hd)
        · intro j oj hj hl
          rcases listed_set hl with rfl | hl2
          · rw [hio] at hj; cases hj
            refine ⟨v, hv, fun d hd => ?_⟩
            have hdn : d < n := by
              simp only [opOk, hd, Bool.and_eq_true, decide_eq_true_eq] at hok
              exact hok.1.1.1.2.1
            rw [hd, put_same _ _ _ (by rw [inv.tmps, hn]; exact hdn)]
          · by_cases hji : j = i
            · subst hji; rw [hun] at hl2; cases hl2
            · obtain ⟨v', hv', he'⟩ := inv.known j oj hj hl2
              refine ⟨v', hst j _ _ _ hv' hle, fun d hd => ?_⟩
              rw [put_other _ _ _ _ (fun hd' => by
                simp only [opOk, Bool.and_eq_true, List.all_eq_true] at hok
                have h2 := hok.2 j (List.mem_range.2 (List.getElem?_eq_some_iff.1 hj).1)
                have hdj : dstOf l j = some d := by simp [dstOf, hj, hd]
                simp [hdj, hd', hji] at h2)]
              exact he' d hd
        · intro hns
          by_cases his : i = s
          · subst his; simp [hls] at hns
          · have hns2 : listed.getD s false = false := by
              rw [getD_set_ne false his] at hns; exact hns
            exact hle2.2 (by simpa using his) (inv.pre hns2)
        · intro t ht
          have h1 : o.dst ≠ some t := ht i o hio (by simp [hls])
          rw [put_other _ _ _ _ h1]
          exact inv.rest t (fun j oj hj hl => ht j oj hj (getD_set_true hl))
      unfold wpOp
      simp only [ho, hwant]
      split
      · rename_i hw
        rw [hw] at hsh
        simp only [if_true] at hsh
        left
        unfold Oper.wp
        generalize (execOp a.eval o).run P w1 = r at hsh
        cases r with
        | halt x w' => exact hsh.elim
        | ok nx w' =>
          cases nx with
          | value v => exact step v w' hsh.1 hsh.2
          | skip => exact step undef w' hsh.1 hsh.2
          | enter f args =>
            obtain ⟨h2, h3⟩ := hsh
            exact h3.mono fun e w'' ⟨v, he, hle, hv⟩ => by subst he; exact step v w'' ⟨htrans _ _ _ h2.1 hle.1, fun hb hp => hle.2 hb (h2.2 hb hp)⟩ hv
          | _ => exact hsh.elim
      · rename_i hw
        simp only [Bool.not_eq_true] at hw
        rw [hw] at hsh
        exact step undef w1 ⟨hrefl _, fun _ h => h⟩ (by simpa using hsh)
  refine wp_region_any hm ?_
  refine key l.toArray.size (Array.replicate l.toArray.size false) a0 w.drew ⟨by rw [Array.size_replicate, hsize], hdrew w, rfl, rfl, ?_, ?_, fun _ => hp0, ?_⟩ ?_
  · intro j o _ hl; rw [getD_replicate_false'] at hl; cases hl
  · intro j o _ hl; rw [getD_replicate_false'] at hl; cases hl
  · intro t _; rfl
  · show cnt _ l.length ≤ l.toArray.size
    rw [hsize]; exact cnt_le _ _

theorem region_phase {Le : World → World → Prop} (Pre : World → Prop) (s : Nat) (hrefl : ∀ w, Le w w) (htrans : ∀ a b c, Le a b → Le b c → Le a c) (hdrew : ∀ w, Le w w.drew) {id : Nat} {Q : Exit → Act → World → Prop} {a0 : Act} {w : World} (hp0 : Pre w.drew) {l : List Oper} (n : Nat) (Rs : List (Value → World → Prop))
    (hm : P.follows .mixedOrders = true) (hB : anyB l n = true) (_ : true = true) (hlen : Rs.length = l.length) (hn : a0.tmps.size = n) (hst : AllStable Le Rs)
    (hs : AllShownP P Le Pre l s Rs a0 w l 0) (hfin : ∀ w1 val, Le w w1 → Holds val w1 Rs 0 → Q .normal (putAll val l 0 a0) w1) : (Code.region id l.toArray true).wp P Q a0 w :=
  region_any_phase s hrefl htrans hdrew n (nth Rs) hm hB hn (fun i v w1 w2 => hst.get i v w1 w2) hp0 (fun i o hi => by simpa using hs.get i o hi)
    (fun w1 val hg h => by
      have hex : ∀ i, ∃ v, (i < l.length → nth Rs i v w1) ∧ ∀ o, l[i]? = some o → o.dst.isSome = true → val i = v := by
        intro i
        by_cases hi : i < l.length
        · obtain ⟨v, hv, he⟩ := h i l[i] (by simp [hi])
          exact ⟨v, fun _ => hv, fun o ho hd => by rw [List.getElem?_eq_getElem hi] at ho; cases ho; exact he hd⟩
        · exact ⟨undef, fun h => absurd h hi, fun o ho => by rw [List.getElem?_eq_none (by omega)] at ho; cases ho⟩
      obtain ⟨val2, h2⟩ := Classical.axiomOfChoice hex
      rw [putAll_congr (f := val) (g := val2) l 0 a0 fun i o hi hd => by rw [Nat.zero_add]; exact (h2 i).2 o hi hd]
      exact hfin w1 val2 hg (Holds.of fun i hi => by rw [Nat.zero_add]; exact (h2 i).1 (by omega)))
/-- what is known stays known -/
def Keeping (A B C : World → Prop) (w w' : World) : Prop := (A w → A w') ∧ (B w → B w') ∧ (C w → C w')
@[go_sem] theorem keeping_refl (A B C : World → Prop) (w : World) : Keeping A B C w w ↔ True := ⟨fun _ => trivial, fun _ => ⟨id, id, id⟩⟩
def KnownB (A B C : World → Prop) : Value → World → Prop := fun _ w => B w
def KnownC (A B C : World → Prop) : Value → World → Prop := fun _ w => C w
theorem KnownB.stable (A B C : World → Prop) : Stable (Keeping A B C) (KnownB A B C) := fun _ _ _ h k => k.2.1 h
theorem KnownC.stable (A B C : World → Prop) : Stable (Keeping A B C) (KnownC A B C) := fun _ _ _ h k => k.2.2 h
theorem region_keeping (A B C : World → Prop) (hdrew : ∀ w, Keeping A B C w w.drew) {id : Nat} {Q : Exit → Act → World → Prop} {a0 : Act} {w : World} {l : List Oper} (n : Nat) (Rs : List (Value → World → Prop))
    (hm : P.follows .mixedOrders = true) (hB : anyB l n = true) (_ : true = true) (hlen : Rs.length = l.length) (hn : a0.tmps.size = n) (hst : AllStable (Keeping A B C) Rs)
    (hs : AllShown P (Keeping A B C) l Rs a0 w l 0) (hfin : ∀ w1 val, Keeping A B C w w1 → Holds val w1 Rs 0 → Q .normal (putAll val l 0 a0) w1) : (Code.region id l.toArray true).wp P Q a0 w :=
  region_any_store (fun _ => ⟨fun x => x, fun x => x, fun x => x⟩) (fun _ _ _ h k => ⟨fun x => k.1 (h.1 x), fun x => k.2.1 (h.2.1 x), fun x => k.2.2 (h.2.2 x)⟩) hdrew n (nth Rs) hm hB hn (fun i v w1 w2 => hst.get i v w1 w2) (fun i o hi => by simpa using hs.get i o hi)
    (fun w1 val hg h => by
      have hex : ∀ i, ∃ v, (i < l.length → nth Rs i v w1) ∧ ∀ o, l[i]? = some o → o.dst.isSome = true → val i = v := by
        intro i
        by_cases hi : i < l.length
        · obtain ⟨v, hv, he⟩ := h i l[i] (by simp [hi])
          exact ⟨v, fun _ => hv, fun o ho hd => by rw [List.getElem?_eq_getElem hi] at ho; cases ho; exact he hd⟩
        · exact ⟨undef, fun h => absurd h hi, fun o ho => by rw [List.getElem?_eq_none (by omega)] at ho; cases ho⟩
      obtain ⟨val2, h2⟩ := Classical.axiomOfChoice hex
      rw [putAll_congr (f := val) (g := val2) l 0 a0 fun i o hi hd => by rw [Nat.zero_add]; exact (h2 i).2 o hi hd]
      exact hfin w1 val2 hg (Holds.of fun i hi => by rw [Nat.zero_add]; exact (h2 i).1 (by omega)))
end
end Go.Proofs.Ytpaogoehgkoaeaa
/- A region that draws its order, in which a slice that the call owns is appended to, and then a cell of a block is stored. No program is in sight here. -/
namespace Go.Proofs.Ytpaogoehgkoaeaa
set_option linter.unusedVariables false
set_option linter.unusedSimpArgs false
open Go.RowKit
section
variable {P : Program}
/-- THE STEP of such an append, by what it needs of the world -/
theorem append_once3 {t u e : TypeId} {z : Value} {size bytes : Nat} (E : Elem P t e z size bytes) {w0 w : World} {base : Nat} {ad : Option Addr} {cap n : Nat} {xs : List Value}
    (hown : Owns w0 base e size ad cap n xs) {x : Value} {m : Nat} {news : List Value} {row : Option Nat} (hrow : row = ad.map (·.block))
    {A B : Option Obj} (hA : ∀ g, row = some g → A = w0.heap[g]?) (hB : B = if n + m ≤ cap then appRow (n * size) news A else A)
    (hrc : ∀ g, row = some g → w.heap[g]? = w0.heap[g]? ∨ (w0.heap[g]? = A ∧ w.heap[g]? = B)) (hsz0 : w0.heap.size ≤ w.heap.size) (hx : Src P u w size x m news)
    (h63 : n + m ≤ maxLen) (hbytes : (n + m) * bytes ≤ 140737488355328) (hbase : base ≤ w0.heap.size) {ty : TypeId} :
    ∃ v w', (Builtin.append_ #[t, u] ty #[.slice ad n cap, x]).run P w = .ok v w' ∧ Once row A B w w' ∧ Apn row B base e size (n + m) (xs ++ news) w0.heap.size v w' := by
  have hwOwn : Owns w base e size ad cap n xs ∧ ∀ g, row = some g → n + m ≤ cap → appRow (n * size) news w.heap[g]? = B := by
    obtain ⟨h1, h2, h3, ⟨e1, e2, e3⟩ | ⟨g, cur, fr, e1, e2, hg, hfr, hs, ht⟩⟩ := hown
    · subst e1
      exact ⟨⟨h1, h2, h3, .inl ⟨rfl, e2, e3⟩⟩, fun g hg => by rw [hrow] at hg; cases hg⟩
    · subst e1
      have hr : row = some g := hrow
      have hAg := hA g hr
      rw [hg] at hAg
      rcases hrc g hr with h | ⟨_, h⟩
      · rw [hg] at h
        refine ⟨⟨h1, h2, h3, .inr ⟨g, cur, fr, rfl, e2, h, hfr, hs, ht⟩⟩, fun g' hg' hrm => ?_⟩
        rw [hr] at hg'; cases hg'
        rw [h, hB, if_pos hrm, hAg]
      · have hnc : n * size ≤ cur.size := by rw [hs]; exact Nat.mul_le_mul_right _ h2
        have hlen : (cur.toList.take (n * size)).length = n * size := by simp; omega
        have htk : (cur.toList.take (n * size) ++ news ++ cur.toList.drop (n * size + news.length)).take (n * size) = xs := by
          rw [List.append_assoc]
          have := List.take_left (l₁ := cur.toList.take (n * size)) (l₂ := news ++ cur.toList.drop (n * size + news.length))
          rw [hlen] at this
          rw [this, ht]
        by_cases hroom : n + m ≤ cap
        · rw [hB, if_pos hroom, hAg] at h
          have hfit : n * size + news.length ≤ cur.size := by rw [hx.1, hs, ← Nat.add_mul]; exact Nat.mul_le_mul_right _ hroom
          have hsz : (cur.toList.take (n * size) ++ news ++ cur.toList.drop (n * size + news.length)).toArray.size = cur.size := by simp; omega
          refine ⟨⟨h1, h2, h3, .inr ⟨g, _, fr, rfl, e2, h, by rw [hsz]; exact hfr, by rw [hsz]; exact hs, htk⟩⟩, fun g' hg' _ => ?_⟩
          rw [hr] at hg'; cases hg'
          rw [h, hB, if_pos hroom, hAg]
          exact appRow_idem _ _ _ _ _ hfit
        · rw [hB, if_neg hroom, hAg] at h
          exact ⟨⟨h1, h2, h3, .inr ⟨g, cur, fr, rfl, e2, h, hfr, hs, ht⟩⟩, fun g' hg' hrm => absurd hrm hroom⟩
  obtain ⟨ho, hBw⟩ := hwOwn
  obtain ⟨ad', cap', w', r1, r2, r3, r4, r5⟩ := run_append_at (u := u) (ty := ty) E ho hx h63 hbytes (Nat.le_trans hbase hsz0)
  refine ⟨_, w', r1, ⟨hrow ▸ r3, ?_⟩, ad', cap', rfl, r2, ?_, fun a ha => ?_⟩
  · intro g hg
    have had : ad = some ⟨g, 0, .none⟩ := by
      rw [hrow] at hg
      obtain ⟨_, _, _, ⟨e1, _⟩ | ⟨g', cur, fr, e1, _⟩⟩ := ho
      · rw [e1] at hg; cases hg
      · rw [e1] at hg ⊢; cases hg; rfl
    rcases r5 g had with ⟨hrm, h⟩ | ⟨h, _⟩
    · rw [hBw g hg hrm] at h
      rcases hrc g hg with h2 | ⟨_, h2⟩
      · exact .inr ⟨h2.trans (hA g hg).symm, h⟩
      · exact .inl (h.trans h2.symm)
    · exact .inl h
  · intro a ha hg
    have had : ad = some ⟨a.block, 0, .none⟩ := by
      rw [hrow] at hg
      obtain ⟨_, _, _, ⟨e1, _⟩ | ⟨g', cur, fr, e1, _⟩⟩ := ho
      · rw [e1] at hg; cases hg
      · rw [e1] at hg ⊢; cases hg; rfl
    rcases r5 a.block had with ⟨hrm, h⟩ | ⟨_, h⟩
    · rw [h]; exact hBw _ hg.symm hrm
    · exact absurd rfl (h a ha)
  · rcases r4 a ha with h | h
    · exact .inl (by rw [hrow, h]; rfl)
    · exact .inr (Nat.le_trans hsz0 h)
/-- a row becomes another one, just once; a block turns into something good -/
structure Duo (row : Option Nat) (A B : Option Obj) (g : Nat) (Good : World → Prop) (w w' : World) : Prop where
  os : w'.os = w.os
  tape : w'.tape = w.tape
  output : w'.output = w.output
  size : w.heap.size ≤ w'.heap.size
  block : ∀ k, k < w.heap.size → some k ≠ row → k ≠ g → w'.heap[k]? = w.heap[k]?
  row : ∀ r, row = some r → w'.heap[r]? = w.heap[r]? ∨ (w.heap[r]? = A ∧ w'.heap[r]? = B)
  turn : w'.heap[g]? = w.heap[g]? ∨ Good w'
  good : Good w → Good w'
variable {row : Option Nat} {A B : Option Obj} {g : Nat} {Good : World → Prop}
theorem Duo.refl (w : World) : Duo row A B g Good w w := ⟨rfl, rfl, rfl, Nat.le_refl _, fun _ _ _ _ => rfl, fun _ _ => .inl rfl, .inl rfl, id⟩
theorem Duo.trans {a b c : World} (h : Duo row A B g Good a b) (k : Duo row A B g Good b c) : Duo row A B g Good a c :=
  ⟨k.os.trans h.os, k.tape.trans h.tape, k.output.trans h.output, Nat.le_trans h.size k.size,
   fun j hj h1 h2 => (k.block j (Nat.lt_of_lt_of_le hj h.size) h1 h2).trans (h.block j hj h1 h2),
   fun r hr => by
    rcases h.row r hr with h1 | ⟨h1, h2⟩ <;> rcases k.row r hr with k1 | ⟨k1, k2⟩
    · exact .inl (k1.trans h1)
    · exact .inr ⟨h1 ▸ k1, k2⟩
    · exact .inr ⟨h1, k1.trans h2⟩
    · exact .inr ⟨h1, k2⟩,
   by
    rcases k.turn with k1 | k1
    · rcases h.turn with h1 | h1
      · exact .inl (k1.trans h1)
      · exact .inr (k.good h1)
    · exact .inr k1,
   fun x => k.good (h.good x)⟩
theorem Duo.drew (hd : ∀ w, Good w → Good w.drew) (w : World) : Duo row A B g Good w w.drew := ⟨rfl, rfl, rfl, Nat.le_refl _, fun _ _ _ _ => rfl, fun _ _ => .inl rfl, .inl rfl, hd w⟩
theorem Gr.duo {w w' : World} (h : Gr w w') (hr : ∀ r, row = some r → r < w.heap.size) (hg : g < w.heap.size) (hk : Good w → Good w') : Duo row A B g Good w w' :=
  ⟨h.os, h.tape, h.output, h.size, fun k hk _ _ => h.block k hk, fun r hr' => .inl (h.block r (hr r hr')), .inl (h.block g hg), hk⟩
theorem Once.duo {w w' : World} (h : Once row A B w w') (hg : g < w.heap.size) (hgr : some g ≠ row) (hk : Good w → Good w') : Duo row A B g Good w w' :=
  ⟨h.1.os, h.1.tape, h.1.output, h.1.size, fun k hk h1 _ => h.1.block k hk h1, h.2, .inl (h.1.block g hg hgr), hk⟩
@[go_sem] theorem duo_refl (w : World) : Duo row A B g Good w w ↔ True := ⟨fun _ => trivial, fun _ => Duo.refl w⟩
theorem Duo.cell {w w' : World} (h : Duo row A B g Good w w') {p : Addr} {v : Value} (hp : w.cell? p = some v) (hne : some p.block ≠ row) (hg : p.block ≠ g) : w'.cell? p = some v := by
  have := h.block p.block (World.block_lt_of_cell? w p hp) hne hg
  unfold World.cell? at hp ⊢
  rw [this]; exact hp
theorem Duo.far {w w' a : World} (h : Duo row A B g Good w w') (hr : ∀ r, row = some r → a.heap.size ≤ r) (k : a.grownBy w (some g)) : a.grownBy w' (some g) :=
  ⟨h.os.trans k.os, h.tape.trans k.tape, h.output.trans k.output, Nat.le_trans k.size h.size, fun j hj hne => by
    have hj2 := Nat.lt_of_lt_of_le hj k.size
    exact (h.block j hj2 (fun e => by have := hr j e.symm; omega) (fun e => hne (by rw [e]))).trans (k.block j hj hne)⟩
theorem Apn.duo {base : Nat} {e : TypeId} {size n : Nat} {xs : List Value} {N : Nat} {v : Value} {w1 w2 : World} (h : Apn row B base e size n xs N v w1) (hg : g < N) (hgr : some g ≠ row) (k : Duo row A B g Good w1 w2) : Apn row B base e size n xs N v w2 := by
  obtain ⟨ad, cap, rfl, ho, hb, hn⟩ := h
  have key : ∀ y, ad = some y → w2.heap[y.block]? = w1.heap[y.block]? := by
    intro y hy
    by_cases hr : some y.block = row
    · have h1 := hb _ hy hr
      rcases k.row y.block hr.symm with h2 | ⟨_, h2⟩
      · exact h2
      · rw [h2]; exact h1.symm
    · refine k.block y.block (ho.lt _ hy).2 hr (fun e => ?_)
      rcases hn y hy with h1 | h1
      · exact hr h1
      · omega
  exact ⟨ad, cap, rfl, ho.kept (fun g' hg' => key _ hg'), fun y hy hr => by rw [key y hy]; exact hb y hy hr, hn⟩
theorem Apn.dstable {base : Nat} {e : TypeId} {size n : Nat} {xs : List Value} {N : Nat} (hg : g < N) (hgr : some g ≠ row) : Stable (Duo row A B g Good) (Apn row B base e size n xs N) := fun _ _ _ h k => h.duo hg hgr k
/-- one element, in a block that was made since -/
def OneD (N : Nat) (xs : List Value) : Value → World → Prop := fun v w => ∃ g e fr, v = .slice (some ⟨g, 0, none⟩) 1 1 ∧ N ≤ g ∧ w.heap[g]? = some (.cells xs.toArray e fr)
theorem OneD.dstable {N : Nat} {xs : List Value} (hg : g < N) (hr : ∀ r, row = some r → r < N) : Stable (Duo row A B g Good) (OneD N xs) := by
  rintro v w1 w2 ⟨k, e, fr, rfl, hN, hk⟩ d
  exact ⟨k, e, fr, rfl, hN, (d.block k (Array.getElem?_eq_some_iff.1 hk).1 (fun e => by have := hr k e.symm; omega) (by omega)).trans hk⟩
/-- a block whose last cell is the slice of the append -/
def TailGood (row : Option Nat) (B : Option Obj) (base : Nat) (t e : TypeId) (size n : Nat) (xs : List Value) (N g : Nat) (cs : List Value) (w : World) : Prop := ∃ v, Blk w g t (cs ++ [v]) ∧ Apn row B base e size n xs N v w
theorem TailGood.duo {base : Nat} {t e : TypeId} {size n : Nat} {xs : List Value} {N : Nat} {cs : List Value} {w1 w2 : World} (h : TailGood row B base t e size n xs N g cs w1) (hg : g < N) (hgr : some g ≠ row) (k : Duo row A B g Good w1 w2) (hs : w2.heap[g]? = w1.heap[g]?) : TailGood row B base t e size n xs N g cs w2 := by
  obtain ⟨v, h1, h2⟩ := h
  exact ⟨v, hs.trans h1, h2.duo hg hgr k⟩
theorem TailGood.drew {base : Nat} {t e : TypeId} {size n : Nat} {xs : List Value} {N : Nat} {cs : List Value} (hg : g < N) (hgr : some g ≠ row) (w : World) (h : TailGood row B base t e size n xs N g cs w) : TailGood row B base t e size n xs N g cs w.drew :=
  h.duo (A := none) (Good := fun _ => True) hg hgr (Duo.drew (fun _ _ => trivial) w) rfl
theorem duo_set {base : Nat} {t e : TypeId} {size n : Nat} {xs : List Value} {N : Nat} {cs : List Value} {v : Value} {w : World} {i : Nat} (hB : Blk (w.setCell ⟨g, i, none⟩ v) g t (cs ++ [v])) (ha : Apn row B base e size n xs N v w) (hg : g < N) (hgr : some g ≠ row) :
    Duo row A B g (TailGood row B base t e size n xs N g cs) w (w.setCell ⟨g, i, none⟩ v) ∧ TailGood row B base t e size n xs N g cs (w.setCell ⟨g, i, none⟩ v) := by
  have hf := grown_set w g i v
  have k : Duo row A B g (fun _ => True) w (w.setCell ⟨g, i, none⟩ v) :=
    ⟨hf.os, hf.tape, hf.output, hf.size, fun k hk _ h => hf.block k hk (fun e => h (Option.some.inj e)), fun r hr => .inl (Below.heap_setCell w _ v r (fun e => hgr (by rw [hr, e]))), .inr trivial, fun _ => trivial⟩
  have good : TailGood row B base t e size n xs N g cs (w.setCell ⟨g, i, none⟩ v) := ⟨v, hB, ha.duo hg hgr k⟩
  exact ⟨⟨k.os, k.tape, k.output, k.size, k.block, k.row, .inr good, fun _ => good⟩, good⟩
/-- a good thing since -/
def SinceG (G : World → Prop) : Value → World → Prop := fun _ w => G w
theorem SinceG.stable : Stable (Duo row A B g Good) (SinceG Good) := fun _ _ _ h k => k.good h
theorem region_duo (row : Option Nat) (A B : Option Obj) (g : Nat) (Good : World → Prop) (hd : ∀ w, Good w → Good w.drew) {id : Nat} {Q : Exit → Act → World → Prop} {a0 : Act} {w : World} {l : List Oper} (n : Nat) (Rs : List (Value → World → Prop))
    (hm : P.follows .mixedOrders = true) (hB : anyB l n = true) (_ : true = true) (hlen : Rs.length = l.length) (hn : a0.tmps.size = n) (hst : AllStable (Duo row A B g Good) Rs)
    (hs : AllShown P (Duo row A B g Good) l Rs a0 w l 0) (hfin : ∀ w1 val, Duo row A B g Good w w1 → Holds val w1 Rs 0 → Q .normal (putAll val l 0 a0) w1) : (Code.region id l.toArray true).wp P Q a0 w :=
  region_any_store Duo.refl (fun _ _ _ => Duo.trans) (Duo.drew hd) n (nth Rs) hm hB hn (fun i v w1 w2 => hst.get i v w1 w2) (fun i o hi => by simpa using hs.get i o hi)
    (fun w1 val hg h => by
      have hex : ∀ i, ∃ v, (i < l.length → nth Rs i v w1) ∧ ∀ o, l[i]? = some o → o.dst.isSome = true → val i = v := by
        intro i
        by_cases hi : i < l.length
        · obtain ⟨v, hv, he⟩ := h i l[i] (by simp [hi])
          exact ⟨v, fun _ => hv, fun o ho hd => by rw [List.getElem?_eq_getElem hi] at ho; cases ho; exact he hd⟩
        · exact ⟨undef, fun h => absurd h hi, fun o ho => by rw [List.getElem?_eq_none (by omega)] at ho; cases ho⟩
      obtain ⟨val2, h2⟩ := Classical.axiomOfChoice hex
      rw [putAll_congr (f := val) (g := val2) l 0 a0 fun i o hi hd => by rw [Nat.zero_add]; exact (h2 i).2 o hi hd]
      exact hfin w1 val2 hg (Holds.of fun i hi => by rw [Nat.zero_add]; exact (h2 i).1 (by omega)))
end
end Go.Proofs.Ytpaogoehgkoaeaa
/- A region that draws its order, in which several operations end a phase each: what is needed ahead of each is known to be done in its phase. No program is in sight here. -/
namespace Go.Proofs.Ytpaogoehgkoaeaa
set_option linter.unusedVariables false
set_option linter.unusedSimpArgs false
open Go.RowKit
section
variable {P : Program}
/-- a step, that keeps all phases but its own -/
def LePs (Le : World → World → Prop) (Pre : Nat → World → Prop) (i : Nat) (w w' : World) : Prop := Le w w' ∧ ∀ s, s ≠ i → Pre s w → Pre s w'
def ShownPs (P : Program) (Le : World → World → Prop) (Pre : Nat → World → Prop) (ops : List Oper) (R : Nat → Value → World → Prop) (a0 : Act) (w0 : World) (i : Nat) (o : Oper) : Prop :=
  ∀ ρ w, Ev ρ → (Le w0 w ∧ ∀ s, preB ops s i = true → Pre s w) → KnownAll ops R a0 o ρ w (readsOf ops o) →
    if wantedBy ops o ρ then growUpon P (LePs Le Pre i) w (R i) ((execOp ρ o).run P w) else R i undef w
def AllShownPs (P : Program) (Le : World → World → Prop) (Pre : Nat → World → Prop) (ops : List Oper) (Rs : List (Value → World → Prop)) (a0 : Act) (w0 : World) : List Oper → Nat → Prop
  | [], _ => True
  | o :: r, i => ShownPs P Le Pre ops (nth Rs) a0 w0 i o ∧ AllShownPs P Le Pre ops Rs a0 w0 r (i + 1)
theorem AllShownPs.get {Le : World → World → Prop} {Pre : Nat → World → Prop} {ops : List Oper} {Rs : List (Value → World → Prop)} {a0 : Act} {w0 : World} : ∀ {l : List Oper} {k : Nat}, AllShownPs P Le Pre ops Rs a0 w0 l k → ∀ i o, l[i]? = some o → ShownPs P Le Pre ops (nth Rs) a0 w0 (k + i) o
  | [], _, _, i, o, hi => by simp at hi
  | x :: r, k, h, 0, o, hi => by simp at hi; subst hi; exact h.1
  | x :: r, k, h, i + 1, o, hi => by
    have := h.2.get i o (by simpa using hi)
    rwa [show k + 1 + i = k + (i + 1) by omega] at this
@[go_sem] theorem lePs_same {Le : World → World → Prop} {Pre : Nat → World → Prop} {k : Nat} {w : World} (h : Le w w) : LePs Le Pre k w w ↔ True := ⟨fun _ => trivial, fun _ => ⟨h, fun _ _ x => x⟩⟩
/-- what holds on the way -/
structure OnWayPs (Pre : Nat → World → Prop) (Le : World → World → Prop) (ops : List Oper) (R : Nat → Value → World → Prop) (a0 : Act) (w0 : World) (listed : Array Bool) (a : Act) (w : World) : Prop where
  size : listed.size = ops.length
  le : Le w0 w
  defers : a.defers = a0.defers
  tmps : a.tmps.size = a0.tmps.size
  closed : ∀ j o, ops[j]? = some o → listed.getD j false = true → ∀ d ∈ depsOf o, listed.getD d false = true
  known : ∀ j o, ops[j]? = some o → listed.getD j false = true → ∃ v, R j v w ∧ ∀ d, o.dst = some d → a.tmps.getD d undef = v
  pre : ∀ s, listed.getD s false = false → Pre s w
  rest : ∀ t, (∀ j o, ops[j]? = some o → listed.getD j false = true → o.dst ≠ some t) → a.tmps.getD t undef = a0.tmps.getD t undef

theorem region_any_phases {Pre : Nat → World → Prop} {Le : World → World → Prop} (hrefl : ∀ w, Le w w) (htrans : ∀ a b c, Le a b → Le b c → Le a c) (hdrew : ∀ w, Le w w.drew) {id : Nat} {Q : Exit → Act → World → Prop} {a0 : Act} {w : World} {l : List Oper} (n : Nat) (R : Nat → Value → World → Prop)
    (hm : P.follows .mixedOrders = true) (hB : anyB l n = true) (hn : a0.tmps.size = n) (hst : ∀ i v w1 w2, R i v w1 → Le w1 w2 → R i v w2)
    (hp0 : ∀ s, Pre s w.drew) (hs : ∀ i o, l[i]? = some o → ShownPs P Le Pre l R a0 w i o)
    (hfin : ∀ w1 val, Le w w1 → (∀ i o, l[i]? = some o → ∃ v, R i v w1 ∧ (o.dst.isSome = true → val i = v)) → Q .normal (putAll val l 0 a0) w1) : (Code.region id l.toArray true).wp P Q a0 w := by
  have hsize : l.toArray.size = l.length := by simp
  have allL : ∀ (listed : Array Bool), listed.size = l.length → Region.ready .any l.toArray listed = [] → ∀ k, k < l.length → listed.getD k false = true := by
    intro listed hls hr k
    induction k using Nat.strongRecOn with
    | _ k ih =>
      intro hk
      cases hc : listed.getD k false with
      | true => rfl
      | false =>
        exfalso
        have hok := opOk_of hB (i := k) (o := l[k]) (by simp [hk])
        have hmem : k ∈ Region.ready .any l.toArray listed := by
          rw [mem_ready]
          refine ⟨?_, l[k], by simp [hk], fun e he hb => ?_⟩
          · have : k < listed.size := by omega
            simp [this] at hc ⊢; exact hc
          · have hd : e.on ∈ depsOf l[k] := by
              unfold depsOf
              rw [List.mem_filterMap]
              exact ⟨e, by simpa using he, by rw [hb]; rfl⟩
            simp only [opOk, Bool.and_eq_true, List.all_eq_true, decide_eq_true_eq] at hok
            have hlt := hok.1.1.2 _ hd
            exact ih _ hlt (by omega)
        rw [hr] at hmem
        cases hmem
  have fin : ∀ (listed : Array Bool) (a : Act) (w1 : World), OnWayPs Pre Le l R a0 w listed a w1 → (∀ k, k < l.length → listed.getD k false = true) → Q .normal a w1 := by
    intro listed a w1 inv hall
    have hval := hfin w1 (fun j => match dstOf l j with | some d => a.tmps.getD d undef | none => undef) inv.le (fun i o hi => by
      obtain ⟨v, hv, he⟩ := inv.known i o hi (hall i (List.getElem?_eq_some_iff.1 hi).1)
      refine ⟨v, hv, fun hd => ?_⟩
      obtain ⟨d, hd⟩ := Option.isSome_iff_exists.1 hd
      have : dstOf l i = some d := by simp [dstOf, hi, hd]
      simp only [this]
      exact he d hd)
    have e : a = putAll (fun j => match dstOf l j with | some d => a.tmps.getD d undef | none => undef) l 0 a0 := by
      refine act_ext (by rw [putAll_size, inv.tmps]) (by rw [putAll_defers, inv.defers]) fun t => ?_
      by_cases ht : ∃ (j : Nat) (o : Oper), l[j]? = some o ∧ o.dst = some t
      · obtain ⟨j, o, hj, hd⟩ := ht
        have hok := opOk_of hB hj
        have htn : t < n := by
          simp only [opOk, hd, Bool.and_eq_true, decide_eq_true_eq] at hok
          exact hok.1.1.1.2.1
        rw [putAll_at _ t l 0 a0 j o hj hd (by rw [hn]; exact htn) (fun j' o' hj' hne hd' => by
          have hok' := opOk_of hB hj'
          simp only [opOk, Bool.and_eq_true, List.all_eq_true] at hok'
          have h2 := hok'.2 j (List.mem_range.2 (List.getElem?_eq_some_iff.1 hj).1)
          have hdj : dstOf l j = some t := by simp [dstOf, hj, hd]
          simp [hdj, hd', Ne.symm hne] at h2)]
        have hdj : dstOf l (0 + j) = some t := by simp [dstOf, hj, hd]
        simp only [hdj]
      · rw [putAll_other _ t l 0 a0 (fun o ho hd => ht (by
          obtain ⟨j, hj, e⟩ := List.getElem_of_mem ho
          exact ⟨j, o, by simp [hj, e], hd⟩))]
        exact inv.rest t (fun j o hj _ hd => ht ⟨j, o, hj, hd⟩)
    rw [e]; exact hval
  have key : ∀ (fuel : Nat) (listed : Array Bool) (a : Act) (w1 : World), OnWayPs Pre Le l R a0 w listed a w1 → cnt (fun k => listed.getD k false) l.length ≤ fuel → wpAny P .any l.toArray Q fuel listed a w1 := by
    intro fuel
    induction fuel with
    | zero =>
      intro listed a w1 inv hc
      have hall := cnt_zero (by omega : cnt (fun k => listed.getD k false) l.length = 0)
      refine ⟨?_, fin listed a w1 inv hall⟩
      rw [List.eq_nil_iff_forall_not_mem]
      intro j hj
      obtain ⟨h1, o, ho, _⟩ := mem_ready.1 hj
      have hlt : j < l.length := by
        have := (Array.getElem?_eq_some_iff.1 ho).1
        simpa using this
      have h2 := hall j hlt
      have : j < listed.size := by rw [inv.size]; exact hlt
      simp [this] at h1 h2
      rw [h1] at h2; cases h2
    | succ fuel ih =>
      intro listed a w1 inv hc
      refine ⟨fun hr => fin listed a w1 inv (allL listed inv.size hr), fun i hi => ?_⟩
      obtain ⟨h1, o, ho, hdeps⟩ := mem_ready.1 hi
      have hio : l[i]? = some o := by simpa using ho
      have hlt : i < l.length := (List.getElem?_eq_some_iff.1 hio).1
      have hls : i < listed.size := by rw [inv.size]; exact hlt
      have hun : listed.getD i false = false := by simp [hls] at h1 ⊢; exact h1
      have hok := opOk_of hB hio
      have hdl : ∀ d ∈ depsOf o, listed.getD d false = true := by
        intro d hd
        unfold depsOf at hd
        obtain ⟨e, he, hb⟩ := List.mem_filterMap.1 hd
        split at hb
        · rename_i hbb
          cases hb
          exact hdeps e (by simpa using he) hbb
        · cases hb
      have hcnt : cnt (fun k => (listed.setIfInBounds i true).getD k false) l.length ≤ fuel := by
        have := cnt_set (f := fun k => listed.getD k false) (g := fun k => (listed.setIfInBounds i true).getD k false) (i := i) (n := l.length) hlt hun (fun k => by
          by_cases hk : i = k
          · subst hk; simp [hls]
          · have hk' : (k == i) = false := by simp; omega
            simp only [getD_set_ne false hk, hk', Bool.or_false])
        omega
      have hkn : ∀ t ∈ readsOf l o, knownOf l R a0 o t (a.eval (.tmp t)) w1 := by
        intro t ht
        show knownOf l R a0 o t (a.tmps.getD t undef) w1
        unfold knownOf
        cases hsrc : srcOf l o t with
        | some j =>
          have hj := List.mem_of_find?_eq_some hsrc
          have hjt := List.find?_some hsrc
          have hjd : dstOf l j = some t := by simpa using hjt
          unfold dstOf at hjd
          cases hlj : l[j]? with
          | none => simp [hlj] at hjd
          | some oj =>
            simp [hlj] at hjd
            obtain ⟨v, hv, he⟩ := inv.known j oj hlj (hdl j hj)
            show R j (a.tmps.getD t undef) w1
            rw [he t hjd]; exact hv
        | none =>
          refine inv.rest t (fun j oj hlj hll hd => ?_)
          have hdj : dstOf l j = some t := by simp [dstOf, hlj, hd]
          have hne : j ≠ i := fun e => by subst e; rw [hun] at hll; cases hll
          simp only [opOk, Bool.and_eq_true, List.all_eq_true] at hok
          have h2 := hok.2 j (List.mem_range.2 (List.getElem?_eq_some_iff.1 hlj).1)
          simp only [hdj, hlj] at h2
          have ht' : (readsOf l o).contains t = true := by simpa using ht
          simp [hne, ht] at h2
          rcases h2.2 with h3 | h3
          · have := List.find?_eq_none.1 hsrc j h3
            simp [hdj] at this
          · have := inv.closed j oj hlj hll i h3
            rw [hun] at this; cases this
      have hpre : ∀ s, preB l s i = true → Pre s w1 := by
        intro s hb
        refine inv.pre s ?_
        cases hc : listed.getD s false with
        | false => rfl
        | true =>
          exfalso
          simp only [preB, Bool.or_eq_true, beq_iff_eq] at hb
          rcases hb with rfl | hb
          · rw [hun] at hc; cases hc
          · cases hos : l[s]? with
            | none => rw [hos] at hb; cases hb
            | some os =>
              rw [hos] at hb
              have := inv.closed s os hos hc i (by simpa using hb)
              rw [hun] at this; cases this
      have hsh := hs i o hio a.eval w1 ⟨fun _ => rfl, fun _ => rfl, fun _ => rfl⟩ ⟨inv.le, hpre⟩ (KnownAll.of hkn)
      have hwant : Region.wanted o (yielded l.toArray a.tmps) = wantedBy l o a.eval := by
        unfold Region.wanted wantedBy
        cases o.guard with
        | none => rfl
        | some g => simp only [yielded_eq]; rfl
      have step : ∀ v w2, LePs Le Pre i w1 w2 → R i v w2 → wpAny P .any l.toArray Q fuel (listed.setIfInBounds i true) (a.put o.dst v) w2 := by
        intro v w2 hle2 hv
        have hle := hle2.1
        refine ih _ _ _ ⟨by simp [inv.size], htrans _ _ _ inv.le hle, by rw [put_defers, inv.defers], by rw [put_size, inv.tmps], ?_, ?_, ?_, ?_⟩ hcnt
        · intro j oj hj hl d hd
          rcases listed_set hl with rfl | hl
          · rw [hio] at hj; cases hj
            exact getD_set_true (hdl d hd)
          · exact getD_set_true (inv.closed j oj hj hl d hd)
        · intro j oj hj hl
          rcases listed_set hl with rfl | hl2
          · rw [hio] at hj; cases hj
            refine ⟨v, hv, fun d hd => ?_⟩
            have hdn : d < n := by
              simp only [opOk, hd, Bool.and_eq_true, decide_eq_true_eq] at hok
              exact hok.1.1.1.2.1
            rw [hd, put_same _ _ _ (by rw [inv.tmps, hn]; exact hdn)]
          · by_cases hji : j = i
            · subst hji; rw [hun] at hl2; cases hl2
            · obtain ⟨v', hv', he'⟩ := inv.known j oj hj hl2
              refine ⟨v', hst j _ _ _ hv' hle, fun d hd => ?_⟩
              rw [put_other _ _ _ _ (fun hd' => by
                simp only [opOk, Bool.and_eq_true, List.all_eq_true] at hok
                have h2 := hok.2 j (List.mem_range.2 (List.getElem?_eq_some_iff.1 hj).1)
                have hdj : dstOf l j = some d := by simp [dstOf, hj, hd]
                simp [hdj, hd', hji] at h2)]
              exact he' d hd
        · intro s hns
          by_cases his : i = s
          · subst his; simp [hls] at hns
          · have hns2 : listed.getD s false = false := by
              rw [getD_set_ne false his] at hns; exact hns
            exact hle2.2 s (fun e => his e.symm) (inv.pre s hns2)
        · intro t ht
          have h1 : o.dst ≠ some t := ht i o hio (by simp [hls])
          rw [put_other _ _ _ _ h1]
          exact inv.rest t (fun j oj hj hl => ht j oj hj (getD_set_true hl))
      unfold wpOp
      simp only [ho, hwant]
      split
      · rename_i hw
        rw [hw] at hsh
        simp only [if_true] at hsh
        left
        unfold Oper.wp
        generalize (execOp a.eval o).run P w1 = r at hsh
        cases r with
        | halt x w' => exact hsh.elim
        | ok nx w' =>
          cases nx with
          | value v => exact step v w' hsh.1 hsh.2
          | skip => exact step undef w' hsh.1 hsh.2
          | enter f args =>
            obtain ⟨h2, h3⟩ := hsh
            exact h3.mono fun e w'' ⟨v, he, hle, hv⟩ => by subst he; exact step v w'' ⟨htrans _ _ _ h2.1 hle.1, fun s hb hp => hle.2 s hb (h2.2 s hb hp)⟩ hv
          | _ => exact hsh.elim
      · rename_i hw
        simp only [Bool.not_eq_true] at hw
        rw [hw] at hsh
        exact step undef w1 ⟨hrefl _, fun _ _ h => h⟩ (by simpa using hsh)
  refine wp_region_any hm ?_
  refine key l.toArray.size (Array.replicate l.toArray.size false) a0 w.drew ⟨by rw [Array.size_replicate, hsize], hdrew w, rfl, rfl, ?_, ?_, fun s _ => hp0 s, ?_⟩ ?_
  · intro j o _ hl; rw [getD_replicate_false'] at hl; cases hl
  · intro j o _ hl; rw [getD_replicate_false'] at hl; cases hl
  · intro t _; rfl
  · show cnt _ l.length ≤ l.toArray.size
    rw [hsize]; exact cnt_le _ _

theorem region_phases {Le : World → World → Prop} (Pre : Nat → World → Prop) (hrefl : ∀ w, Le w w) (htrans : ∀ a b c, Le a b → Le b c → Le a c) (hdrew : ∀ w, Le w w.drew) {id : Nat} {Q : Exit → Act → World → Prop} {a0 : Act} {w : World} (hp0 : ∀ s, Pre s w.drew) {l : List Oper} (n : Nat) (Rs : List (Value → World → Prop))
    (hm : P.follows .mixedOrders = true) (hB : anyB l n = true) (_ : true = true) (hlen : Rs.length = l.length) (hn : a0.tmps.size = n) (hst : AllStable Le Rs)
    (hs : AllShownPs P Le Pre l Rs a0 w l 0) (hfin : ∀ w1 val, Le w w1 → Holds val w1 Rs 0 → Q .normal (putAll val l 0 a0) w1) : (Code.region id l.toArray true).wp P Q a0 w :=
  region_any_phases hrefl htrans hdrew n (nth Rs) hm hB hn (fun i v w1 w2 => hst.get i v w1 w2) hp0 (fun i o hi => by simpa using hs.get i o hi)
    (fun w1 val hg h => by
      have hex : ∀ i, ∃ v, (i < l.length → nth Rs i v w1) ∧ ∀ o, l[i]? = some o → o.dst.isSome = true → val i = v := by
        intro i
        by_cases hi : i < l.length
        · obtain ⟨v, hv, he⟩ := h i l[i] (by simp [hi])
          exact ⟨v, fun _ => hv, fun o ho hd => by rw [List.getElem?_eq_getElem hi] at ho; cases ho; exact he hd⟩
        · exact ⟨undef, fun h => absurd h hi, fun o ho => by rw [List.getElem?_eq_none (by omega)] at ho; cases ho⟩
      obtain ⟨val2, h2⟩ := Classical.axiomOfChoice hex
      rw [putAll_congr (f := val) (g := val2) l 0 a0 fun i o hi hd => by rw [Nat.zero_add]; exact (h2 i).2 o hi hd]
      exact hfin w1 val2 hg (Holds.of fun i hi => by rw [Nat.zero_add]; exact (h2 i).1 (by omega)))
/-- a block in which one cell is the slice of the append -/
def GoodF (row : Option Nat) (B : Option Obj) (base : Nat) (t e : TypeId) (size n : Nat) (xs : List Value) (N g : Nat) (F : Value → List Value) (w : World) : Prop := ∃ v, Blk w g t (F v) ∧ Apn row B base e size n xs N v w
section
variable {row : Option Nat} {A B : Option Obj} {g : Nat} {Good : World → Prop} {base : Nat} {t e : TypeId} {size n : Nat} {xs : List Value} {N : Nat} {F : Value → List Value}
theorem GoodF.duo {w1 w2 : World} (h : GoodF row B base t e size n xs N g F w1) (hg : g < N) (hgr : some g ≠ row) (k : Duo row A B g Good w1 w2) (hs : w2.heap[g]? = w1.heap[g]?) : GoodF row B base t e size n xs N g F w2 := by
  obtain ⟨v, h1, h2⟩ := h
  exact ⟨v, hs.trans h1, h2.duo hg hgr k⟩
theorem GoodF.drew (hg : g < N) (hgr : some g ≠ row) (w : World) (h : GoodF row B base t e size n xs N g F w) : GoodF row B base t e size n xs N g F w.drew :=
  h.duo (A := none) (Good := fun _ => True) hg hgr (Duo.drew (fun _ _ => trivial) w) rfl
theorem duo_setF {v : Value} {w : World} {i : Nat} (hB : Blk (w.setCell ⟨g, i, none⟩ v) g t (F v)) (ha : Apn row B base e size n xs N v w) (hg : g < N) (hgr : some g ≠ row) :
    Duo row A B g (GoodF row B base t e size n xs N g F) w (w.setCell ⟨g, i, none⟩ v) ∧ GoodF row B base t e size n xs N g F (w.setCell ⟨g, i, none⟩ v) := by
  have hf := grown_set w g i v
  have k : Duo row A B g (fun _ => True) w (w.setCell ⟨g, i, none⟩ v) :=
    ⟨hf.os, hf.tape, hf.output, hf.size, fun k hk _ h => hf.block k hk (fun e => h (Option.some.inj e)), fun r hr => .inl (Below.heap_setCell w _ v r (fun e => hgr (by rw [hr, e]))), .inr trivial, fun _ => trivial⟩
  have good : GoodF row B base t e size n xs N g F (w.setCell ⟨g, i, none⟩ v) := ⟨v, hB, ha.duo hg hgr k⟩
  exact ⟨⟨k.os, k.tape, k.output, k.size, k.block, k.row, .inr good, fun _ => good⟩, good⟩
end
end
end Go.Proofs.Ytpaogoehgkoaeaa
/- Layer 1 (region): New walked. -/
namespace Go.Proofs.Ytpaogoehgkoaeaa
set_option linter.unusedVariables false
set_option linter.unusedSimpArgs false
open Go.RowKit
set_option maxRecDepth 100000 in
set_option maxHeartbeats 4000000 in
theorem New_bad (w : World) (size slabs : Int) (h : newOk size slabs = false) :
    Calls Try.prog 6 #[.int .i64 size, .int .i64 slabs] w fun e w' => e = .returned (.tuple #[.pointer none, .int .i64 1]) ∧ w = w' := by
  unfold newOk at h
  by_cases b1 : size < 64
  · clear h
    go_enter Try.func6, Try.ntmps6
    go_wp2
    go_ret2
    exact ⟨rfl, rfl⟩
  · by_cases b2 : size > 65536
    · clear h
      go_enter Try.func6, Try.ntmps6
      go_wp2
      go_ret2
      exact ⟨rfl, rfl⟩
    · obtain ⟨a, rfl⟩ : ∃ a : Nat, size = (a : Int) := ⟨size.toNat, by omega⟩
      obtain ⟨m, hm⟩ : ∃ m, m = a % 8 := ⟨_, rfl⟩
      have hmt : (a : Int).tmod 8 = (m : Int) := by rw [hm]; rfl
      by_cases b3 : m = 0
      · by_cases b4 : slabs < 1
        · clear hm
          clear h
          go_enter Try.func6, Try.ntmps6
          go_wp2
          go_ret2
          exact ⟨rfl, rfl⟩
        · by_cases b5 : slabs > 4096
          · clear hm
            clear h
            go_enter Try.func6, Try.ntmps6
            go_wp2
            go_ret2
            exact ⟨rfl, rfl⟩
          · obtain ⟨n, rfl⟩ : ∃ n : Nat, slabs = (n : Int) := ⟨slabs.toNat, by omega⟩
            obtain ⟨q, hq⟩ : ∃ q, q = a * n := ⟨_, rfl⟩
            have hqi : (a : Int) * (n : Int) = (q : Int) := by rw [hq]; simp
            have hql : q ≤ 268435456 := by rw [hq]; exact Nat.le_trans (Nat.mul_le_mul (show a ≤ 65536 by omega) (show n ≤ 4096 by omega)) (by decide)
            have hqw : IntKind.i64.wrap (q : Int) = (q : Int) := by rw [IntKind.wrap_i64]; omega
            have hb : q > 4194304 := by
              rcases Nat.lt_or_ge 4194304 q with h1 | h1
              · exact h1
              · exfalso
                rw [hqi] at h
                have e1 : decide ((64 : Int) ≤ (a : Int)) = true := decide_eq_true (by omega)
                have e2 : decide ((a : Int) ≤ 65536) = true := decide_eq_true (by omega)
                have e3 : decide ((a : Int) % 8 = 0) = true := decide_eq_true (by omega)
                have e4 : decide ((1 : Int) ≤ (n : Int)) = true := decide_eq_true (by omega)
                have e5 : decide ((n : Int) ≤ 4096) = true := decide_eq_true (by omega)
                have e6 : decide ((q : Int) ≤ 4194304) = true := decide_eq_true (by omega)
                rw [e1, e2, e3, e4, e5, e6] at h
                cases h
            clear hm hq
            clear h
            go_enter Try.func6, Try.ntmps6
            go_wp2
            go_ret2
            exact ⟨rfl, rfl⟩
      · have hz : ((m : Int) != 0) = true := by simp; omega
        clear hm
        clear h
        go_enter Try.func6, Try.ntmps6
        go_wp2
        go_ret2
        exact ⟨rfl, rfl⟩
theorem pool_built (s : Int) (ad : Option Addr) (n c : Nat) : Try.prog.built 58 [(0, .int .i64 s), (2, .slice ad n c)] = some ([Value.int .i64 s, .slice none 0 0, .slice ad n c] ++ flat (fun _ => landV noLand none 0) 256).toArray := by kernel_rfl
def poolN (s : Int) (s1 s2 : Value) : List Value := [.int .i64 s, s1, s2] ++ flat (fun _ => landV noLand none 0) 256
theorem wp_pool {w : World} {ops : Array Oper} {rest : List Oper} {o : Oper} {a : Act} {Q : Exit → Act → World → Prop} (hg : o.guard = none) (x y : Operand) (ho : o.op = .build 58 #[(0, x), (2, y)]) {s : Int} {ad : Option Addr} {n c : Nat} (hx : a.eval x = .int .i64 s) (hy : a.eval y = .slice ad n c)
    (h : wpList Try.prog ops Q rest (a.put o.dst (.agg (poolN s (.slice none 0 0) (.slice ad n c)).toArray)) w) : wpList Try.prog ops Q (o :: rest) a w := by
  have hb : Try.prog.built 58 ((#[(0, x), (2, y)] : Array (Nat × Operand)).map fun (i, x) => (i, a.eval x)).toList = some (poolN s (.slice none 0 0) (.slice ad n c)).toArray := by
    simp only [List.map_toArray, List.map_cons, List.map_nil, hx, hy]
    exact pool_built s ad n c
  refine wpList_build hg 58 #[(0, x), (2, y)] ho (by rw [hb]; rfl) ?_
  rw [hb]
  exact h
/-- a slab of noughts, in block N -/
def NewAt (N a : Nat) : Value → World → Prop := fun v w => v = .slice (some ⟨N, 0, none⟩) a a ∧ Blk w N 5 (bv (List.replicate a 0))
theorem NewAt.dstable {row : Option Nat} {A B : Option Obj} {g : Nat} {Good : World → Prop} {N a : Nat} (hg : g < N) (hr : ∀ r, row = some r → r < N) : Stable (Duo row A B g Good) (NewAt N a) := by
  rintro v w1 w2 ⟨e, h⟩ d
  exact ⟨e, (d.block N h.lt (fun e => by have := hr N e.symm; omega) (by omega)).trans h⟩
def NPre (N g : Nat) (cs : List Value) : Nat → World → Prop := fun s w => if s = 6 then w.heap.size = N else if s = 11 then Blk w g 58 cs else True
theorem NPre.six {N g : Nat} {cs : List Value} {w : World} : NPre N g cs 6 w ↔ w.heap.size = N := by simp [NPre]
theorem NPre.eleven {N g : Nat} {cs : List Value} {w : World} : NPre N g cs 11 w ↔ Blk w g 58 cs := by simp [NPre]
theorem NPre.step {N g : Nat} {cs : List Value} {w w' : World} {i : Nat} (h6 : i ≠ 6 → w.heap.size = N → w'.heap.size = N) (h11 : i ≠ 11 → Blk w g 58 cs → Blk w' g 58 cs) : ∀ s, s ≠ i → NPre N g cs s w → NPre N g cs s w' := by
  intro s hs h
  by_cases e6 : s = 6
  · subst e6; rw [NPre.six] at h ⊢; exact h6 (fun e => hs e.symm) h
  · by_cases e11 : s = 11
    · subst e11; rw [NPre.eleven] at h ⊢; exact h11 (fun e => hs e.symm) h
    · simp [NPre, e6, e11]
theorem make_slab (w : World) (a : Nat) (h : a ≤ 65536) (kl kc : IntKind) : ∃ w', (Instr.makeSlice 45 (.int kl (a : Int)) (.int kc (a : Int))).run Try.prog w = .ok (.slice (some ⟨w.heap.size, 0, none⟩) a a) w' ∧ Gr w w' ∧ Blk w' w.heap.size 5 (bv (List.replicate a 0)) := by
  obtain ⟨ht, hinfo, hzs, hpos⟩ := elemB
  obtain ⟨i, hi, hz, hsize, hby⟩ := info_parts hinfo
  have hb' : (i.bytes : Int) * (a : Int) ≤ 281474976710656 := by rw [hby]; omega
  have hr := run_make (P := Try.prog) w 45 5 i (.int .u8 0) ht hi hz kl kc a a (by omega) (by omega) hb' (by omega)
  simp only [Int.toNat_natCast] at hr
  refine ⟨_, hr, Gr.alloc _ _, ?_⟩
  have e : (madeCells (Value.int .u8 0).cells (a * i.size)).toList = bv (List.replicate a 0) := by
    rw [hsize, Nat.mul_one, ← bv_replicate, show (Value.int .u8 0).cells = #[Value.int .u8 0] from rfl, toList_madeCells_one]
  rw [← e]
  exact Blk.new w 5 _
/-- while slabs are made -/
structure NW (w wr : World) (g bt a n i : Nat) (ads : Option Addr) (cs : Nat) (bd : Nat → Nat) : Prop where
  gr : Gr w wr
  hg : w.heap.size ≤ g
  blk : Blk wr g 58 (poolN (a : Int) (.slice ads i cs) (.slice (some ⟨bt, 0, none⟩) n n))
  row : Owns wr w.heap.size 45 1 ads cs i (slabV bd a i)
  slab : ∀ j, j < i → Blk wr (bd j) 5 (bv (List.replicate a 0)) ∧ w.heap.size ≤ bd j
  inj : ∀ j k, j < i → k < i → bd j = bd k → j = k
  tak : Owns wr w.heap.size 4 1 (some ⟨bt, 0, none⟩) n n (List.replicate n (.bool false))
set_option maxRecDepth 100000 in
set_option maxHeartbeats 4000000 in
theorem New_good (w : World) (a n : Nat) (h1 : 64 ≤ a) (h2 : a ≤ 65536) (h3 : a % 8 = 0) (h4 : 1 ≤ n) (h5 : n ≤ 4096) (h6 : a * n ≤ 4194304) :
    Calls Try.prog 6 #[.int .i64 (a : Int), .int .i64 (n : Int)] w fun e w' => ∃ g S, e = .returned (.tuple #[.pointer (some ⟨g, 0, none⟩), .int .i64 0]) ∧ Gr w w' ∧ PoolAt w' S g (newF a n) ∧ ∀ j, S j → w.heap.size ≤ j := by
  have hmt : (a : Int).tmod 8 = 0 := by show ((a % 8 : Nat) : Int) = 0; rw [h3]; rfl
  obtain ⟨q, hq⟩ : ∃ q, q = a * n := ⟨_, rfl⟩
  have hqi : (a : Int) * (n : Int) = (q : Int) := by rw [hq]; simp
  have hql : q ≤ 4194304 := by rw [hq]; exact h6
  have hqw : IntKind.i64.wrap (q : Int) = (q : Int) := by rw [IntKind.wrap_i64]; omega
  have m1 : n ≤ maxLen := by unfold maxLen; omega
  have m2 : 1 * n ≤ 281474976710656 := by omega
  clear hq h6 h3
  go_enter Try.func6, Try.ntmps6
  go_wp2_with (first
    | (at_make; go_must (refine wp_make elemBool rfl rfl _ _ rfl n n rfl rfl rfl rfl (Nat.le_refl _) m1 m2 ?_); intro w1 o1 g1 z1)
    | ((with_reducible show Go.wpList _ _ _ (Oper.mk _ (Op.build _ _) _ _ _ _ :: _) _ _); go_must (refine wp_pool rfl _ _ rfl rfl rfl ?_))
    | fail)
  have hNW : NW w (w1.alloc (.cells (poolN (a : Int) (.slice none 0 0) (.slice (some ⟨w.heap.size, 0, none⟩) n n)).toArray 58)) (w.heap.size + 1) w.heap.size a n 0 none 0 (fun _ => 0) := by
    have hb := Blk.new w1 58 (poolN (a : Int) (.slice none 0 0) (.slice (some ⟨w.heap.size, 0, none⟩) n n)).toArray
    rw [z1] at hb
    exact ⟨g1.trans (Gr.alloc _ _), by omega, hb, Owns.empty _ _ _ _, fun j hj => by omega, fun j k hj => by omega, o1.gr (Gr.alloc _ _)⟩
  have HN := Lib.hid hNW
  have hgb : w.heap.size ≤ w.heap.size + 1 := by omega
  clear hNW o1 g1 z1
  generalize w.heap.size + 1 = g at *
  generalize (w1.alloc (.cells (poolN (a : Int) (.slice none 0 0) (.slice (some ⟨w.heap.size, 0, none⟩) n n)).toArray 58)) = W1 at *
  go_loopw [38] (fun v wr => ∃ (i : Nat) (ads : Option Addr) (cs : Nat) (bd : Nat → Nat), i ≤ n ∧ v = .int .i64 (i : Int) ∧ NW w wr g w.heap.size a n i ads cs bd) (fun v _ => n - (intOf v).toNat)
  case atStart => exact ⟨0, none, 0, fun _ => 0, Nat.zero_le _, rfl, HN.out⟩
  case round =>
    obtain ⟨i, ads, cs, bd, hi, rfl, hN⟩ := hrel
    by_cases hin : i < n
    · have c1 := hN.blk.cell (i := 1) rfl
      have f1 := hN.blk.frozen 1
      have HN2 := Lib.hid hN
      have hb := hN.gr.size
      clear hN
      have m3 : i + 1 ≤ maxLen := by unfold maxLen; omega
      have m4 : (i + 1) * 24 ≤ 140737488355328 := by omega
      go_wp2
      obtain ⟨W0, hW0⟩ : ∃ W0, W0 = wr := ⟨_, rfl⟩
      subst hW0
      obtain ⟨row, hrow⟩ : ∃ row, row = ads.map (·.block) := ⟨_, rfl⟩
      have hNo := HN2.out
      have hgW := hNo.blk.lt
      have hrlt : ∀ g', row = some g' → g' < W0.heap.size ∧ w.heap.size ≤ g' := by
        intro g' hg'
        rw [hrow] at hg'
        cases ads with
        | none => cases hg'
        | some y => cases hg'; exact ⟨(hNo.row.lt y rfl).2, (hNo.row.lt y rfl).1⟩
      have hgne : some g ≠ row := fun h => by
        rw [hrow] at h
        cases hads : ads with
        | none => rw [hads] at h; cases h
        | some y => rw [hads] at h; exact hNo.blk.owns_ne hNo.row (by decide) y hads (Option.some.inj h).symm
      obtain ⟨A9, hA⟩ : ∃ A9 : Option Obj, ∀ g, row = some g → A9 = W0.heap[g]? := ⟨row.bind fun g => W0.heap[g]?, fun g hg' => by rw [hg']; rfl⟩
      obtain ⟨B9, hB⟩ : ∃ B9 : Option Obj, B9 = if i + 1 ≤ cs then appRow (i * 1) [.slice (some ⟨W0.heap.size, 0, none⟩) a a] A9 else A9 := ⟨_, rfl⟩
      have HRow := Lib.hid hrow
      have HA := Lib.hid hA
      have HBB := Lib.hid hB
      have HRL := Lib.hid hrlt
      have oj2 := hNo.row
      have HRV := Lib.hid (fun r (h : row = some r) => (hrlt r h).1)
      have HP0 := Lib.hid (show ∀ s, NPre W0.heap.size g (poolN (a : Int) (.slice ads i cs) (.slice (some ⟨w.heap.size, 0, none⟩) n n)) s W0.drew from fun s => by
        by_cases e6 : s = 6
        · subst e6; rw [NPre.six]; rfl
        · by_cases e11 : s = 11
          · subst e11; rw [NPre.eleven]; exact hNo.blk.drew
          · simp [NPre, e6, e11])
      have HSET := Lib.hid (show ∀ w' v, Blk w' g 58 (poolN (a : Int) (.slice ads i cs) (.slice (some ⟨w.heap.size, 0, none⟩) n n)) → Blk (w'.setCell ⟨g, 1, none⟩ v) g 58 (poolN (a : Int) v (.slice (some ⟨w.heap.size, 0, none⟩) n n)) from fun w' v h => h.set_ 1 v)
      have HPRE := Lib.hid (show ∀ w', Blk w' g 58 (poolN (a : Int) (.slice ads i cs) (.slice (some ⟨w.heap.size, 0, none⟩) n n)) → w'.cell? ⟨g, 1, none⟩ = some (.slice ads i cs) ∧ w'.frozen? ⟨g, 1, none⟩ = false from fun w' h => ⟨h.cell rfl, h.frozen 1⟩)
      clear hrow hA hB hrlt hNo c1 f1
      refine region_phases (Le := Duo row A9 B9 g (GoodF row B9 w.heap.size 58 45 1 (i + 1) (slabV bd a i ++ [.slice (some ⟨W0.heap.size, 0, none⟩) a a]) W0.heap.size g (fun v => poolN (a : Int) v (.slice (some ⟨w.heap.size, 0, none⟩) n n)))) (NPre W0.heap.size g (poolN (a : Int) (.slice ads i cs) (.slice (some ⟨w.heap.size, 0, none⟩) n n))) Duo.refl (fun _ _ _ => Duo.trans) (Duo.drew (GoodF.drew hgW hgne)) HP0.out _ [Is ?r0, Is ?r1, Is ?r2, Is (.pointer (some ⟨g, 1, none⟩)), Is (.slice ads i cs), Is (.int .i64 (a : Int)), NewAt W0.heap.size a, OneD W0.heap.size [.slice (some ⟨W0.heap.size, 0, none⟩) a a], Apn row B9 w.heap.size 45 1 (i + 1) (slabV bd a i ++ [.slice (some ⟨W0.heap.size, 0, none⟩) a a]) W0.heap.size, Is ?r9, Is (.pointer (some ⟨g, 1, none⟩)), SinceG (GoodF row B9 w.heap.size 58 45 1 (i + 1) (slabV bd a i ++ [.slice (some ⟨W0.heap.size, 0, none⟩) a a]) W0.heap.size g (fun v => poolN (a : Int) v (.slice (some ⟨w.heap.size, 0, none⟩) n n)))] (by kernel_rfl) (by kernel_rfl) (by kernel_rfl) rfl rfl ⟨Is.stable _, Is.stable _, Is.stable _, Is.stable _, Is.stable _, Is.stable _, NewAt.dstable hgW HRV.out, OneD.dstable hgW HRV.out, Apn.dstable hgW hgne, Is.stable _, Is.stable _, SinceG.stable, trivial⟩ ⟨?s0, ?s1, ?s2, ?s3, ?s4, ?s5, ?s6, ?s7, ?s8, ?s9, ?s10, ?s11, trivial⟩ ?fin
      case' s0 | s1 | s2 | s3 | s4 | s5 | s6 | s7 | s9 | s10 =>
        intro ρ wr hρ hg hK
        simp [readsOf, slotsOf, Op.operands, Call.operands, tmpOf, List.filterMap_cons, List.filterMap_nil, KnownAll, knownOf, srcOf, depsOf, dstOf, Region.binds, nth, Is] at hK
        obtain ⟨hc, hf, hgl⟩ := hρ
        try simp only [wantedBy, dstOf, boolOf, nth, List.getD_cons_zero, List.getD_cons_succ, List.getElem?_cons_zero, List.getElem?_cons_succ, Option.bind_some, if_true, hK, BEq.rfl]
        try go_simp
        first | exact rfl | (rw [if_pos (by omega)]; exact is_here rfl) | (rw [dif_pos (by omega)]; exact is_here rfl) | exact congrArg (Value.int _) (IntWalk.i64_in _ ⟨by omega, by omega⟩) | skip
      case' s8 | s11 =>
        intro ρ wr hρ hg hK
        simp [readsOf, slotsOf, Op.operands, Call.operands, tmpOf, List.filterMap_cons, List.filterMap_nil, KnownAll, knownOf, srcOf, depsOf, dstOf, Region.binds, nth, Is] at hK
        obtain ⟨hc, hf, hgl⟩ := hρ
        try simp only [wantedBy, dstOf, boolOf, nth, List.getD_cons_zero, List.getD_cons_succ, List.getElem?_cons_zero, List.getElem?_cons_succ, Option.bind_some, if_true, hK, BEq.rfl]
      case s4 =>
        obtain ⟨p1, p2⟩ := HPRE.out _ (NPre.eleven.1 (hg.2 11 (by kernel_rfl)))
        go_simp
        exact rfl
      case s6 =>
        obtain ⟨w9, r1, r2, r3⟩ := make_slab _ a h2 .i64 .i64
        have e9 := NPre.six.1 (hg.2 6 (by kernel_rfl))
        have hs := hg.1.size
        rw [r1]
        rw [e9] at r3 ⊢
        simp only [Result.andThen_ok, growUpon_value]
        have k := Gr.duo (row := row) (A := A9) (B := B9) (g := g) (Good := fun _ => True) r2 (fun r h => by have := HRV.out r h; omega) (by omega) (fun _ => trivial)
        exact ⟨⟨r2.duo (fun r h => by have := HRV.out r h; omega) (by omega) (fun h => h.duo hgW hgne k (r2.block g (by omega))), NPre.step (fun h => absurd rfl h) (fun _ h => h.gr r2)⟩, rfl, r3⟩
      case s7 =>
        obtain ⟨e0, hb0⟩ := hK
        have hlt0 := hb0.lt
        have hs := hg.1.size
        simp only [e0]
        go_simp
        have k := Gr.duo (row := row) (A := A9) (B := B9) (g := g) (Good := fun _ => True) (Gr.alloc wr (.cells #[.slice (some ⟨W0.heap.size, 0, none⟩) a a] 45)) (fun r h => by have := HRV.out r h; omega) (by omega) (fun _ => trivial)
        exact ⟨⟨(Gr.alloc _ _).duo (fun r h => by have := HRV.out r h; omega) (by omega) (fun h => h.duo hgW hgne k ((Gr.alloc _ _).block g (by omega))), NPre.step (fun _ h => by omega) (fun _ h => h.alloc _)⟩, _, _, _, rfl, hs, heap_alloc_new _ _⟩
      case s8 =>
        obtain ⟨e0, hone⟩ := hK
        have hs := hg.1.size
        obtain ⟨g9, q9, fr9, o1, o2, o3⟩ := hone
        have hlt9 := (Array.getElem?_eq_some_iff.1 o3).1
        obtain ⟨v, w3, r1, r2, r3⟩ := append_once3 (ty := 52) (u := 52) elemRow oj2 HRow.out HA.out HBB.out hg.1.row hs (OneB.src ⟨g9, q9, fr9, o1, o3⟩ rfl (fun x hx => by rw [List.mem_singleton] at hx; rw [hx]; rfl) Try.underlying52) m3 m4 hb
        have k := Once.duo (g := g) (Good := fun _ => True) r2 (by omega) hgne (fun _ => trivial)
        simp only [execOp, resolve, invoke, builtin, Sem.run_bind, Sem.run_pure, Result.andThen_ok, List.map_toArray, List.map_cons, List.map_nil, e0]
        rw [r1]
        exact ⟨⟨r2.duo (by omega) hgne (fun h => h.duo hgW hgne k (r2.1.block g (by omega) hgne)), NPre.step (fun _ h => by omega) (fun _ h => Blk.grown h r2.1 hgne)⟩, r3⟩
      case s11 =>
        obtain ⟨e0, hap⟩ := hK
        have hb := NPre.eleven.1 (hg.2 11 (by kernel_rfl))
        obtain ⟨p1, p2⟩ := HPRE.out _ hb
        have hset := HSET.out _ (ρ (.tmp 48)) hb
        obtain ⟨d1, d2⟩ := duo_setF (A := A9) (F := fun v => poolN (a : Int) v (.slice (some ⟨w.heap.size, 0, none⟩) n n)) hset hap hgW hgne
        obtain ⟨adv, cpv, e1, _⟩ := hap
        rw [e1] at d1 d2
        go_simp
        exact ⟨⟨d1, NPre.step (fun _ h => by simpa using h) (fun h => absurd rfl h)⟩, d2⟩
      case fin =>
        intro w1 val hg hH
        simp only [Holds, Is, Nat.zero_add, Nat.reduceAdd] at hH
        obtain ⟨h0, h1, h2, h3, h4, h5, h6, h7, h8, h9, h10, h11, _⟩ := hH
        simp only [List.take_succ_cons, List.take_zero, List.drop_succ_cons, List.drop_zero, putAll, h0, h1, h2, h3, h4, h5, h9, h10, Nat.zero_add, Nat.reduceAdd]
        obtain ⟨v9, b9, ad9, c9, rfl, o9, _, _⟩ := h11
        obtain ⟨ad7, c7, e7, _⟩ := h8
        obtain ⟨g6, e6, fr6, e6', _⟩ := h7
        obtain ⟨e5, b5⟩ := h6
        simp only [e7, e6', e5]
        go_simp
        have hNo := HN2.out
        have hkeep : ∀ j, j < W0.heap.size → j ≠ g → some j ≠ row → w1.heap[j]? = W0.heap[j]? := fun j hj h1 h2 => hg.block j hj h2 h1
        have hne : ∀ {b : Nat} {t : TypeId} {cs' : List Value}, Blk W0 b t cs' → t ≠ 45 → some b ≠ row := fun hb ht e => by
          rw [HRow.out] at e
          cases hads : ads with
          | none => rw [hads] at e; cases e
          | some y => rw [hads] at e; exact hb.owns_ne hNo.row ht y hads (Option.some.inj e).symm
        have hNW : NW w w1 g w.heap.size a n (i + 1) ad9 c9 (upd bd i W0.heap.size) := by
          refine ⟨⟨hg.os.trans hNo.gr.os, hg.tape.trans hNo.gr.tape, hg.output.trans hNo.gr.output, Nat.le_trans hNo.gr.size hg.size, fun j hj => (hkeep j (Nat.lt_of_lt_of_le hj hNo.gr.size) (by have := hNo.hg; omega) (fun e => by have := (HRL.out j e.symm).2; omega)).trans (hNo.gr.block j hj)⟩, hNo.hg, b9, ?_, fun j hj => ?_, fun j k hj hk => ?_, ?_⟩
          · have e : slabV (upd bd i W0.heap.size) a (i + 1) = slabV bd a i ++ [.slice (some ⟨W0.heap.size, 0, none⟩) a a] := by
              unfold slabV
              rw [List.range_succ, List.map_append]
              congr 1
              · apply List.map_congr_left
                intro j hj
                rw [List.mem_range] at hj
                rw [upd_other _ _ (by omega)]
              · simp [upd_same]
            rw [e]; exact o9
          · by_cases e : j = i
            · subst e; rw [upd_same]; exact ⟨b5, hNo.gr.size⟩
            · rw [upd_other _ _ e]
              obtain ⟨q1, q2⟩ := hNo.slab j (by omega)
              exact ⟨(hkeep _ q1.lt (q1.ne hNo.blk (by decide)) (hne q1 (by decide))).trans q1, q2⟩
          · by_cases ej : j = i
            · by_cases ek : k = i
              · intro _; omega
              · subst ej; rw [upd_same, upd_other _ _ ek]
                have := (hNo.slab k (by omega)).1.lt
                intro e; omega
            · by_cases ek : k = i
              · subst ek; rw [upd_same, upd_other _ _ ej]
                have := (hNo.slab j (by omega)).1.lt
                intro e; omega
              · rw [upd_other _ _ ej, upd_other _ _ ek]
                exact hNo.inj j k (by omega) (by omega)
          · exact hNo.tak.kept (fun b hb => hkeep b (hNo.tak.lt _ hb).2 (hNo.blk.owns_ne hNo.tak (by decide) _ hb) (fun e => by
              rw [HRow.out] at e
              cases hads : ads with
              | none => rw [hads] at e; cases e
              | some y => rw [hads] at e; exact hNo.tak.ne hNo.row (by decide) _ y hb hads (Option.some.inj e)))
        have HNW := Lib.hid hNW
        clear hNW hNo b9 o9 b5 hne hkeep
        go_wp2
        go_roundw
        case rel => exact ⟨i + 1, ad9, c9, upd bd i W0.heap.size, hin, by go_num, HNW.out⟩
        case measure => simp [intOf]; omega
    · obtain rfl : i = n := by omega
      have HN2 := Lib.hid hN
      clear hN
      go_wp2
      go_ret2
      have hN := HN2.out
      have hbl : (newF a i).bytes.length = i := List.length_replicate
      have htl : (newF a i).taken.length = i := List.length_replicate
      refine ⟨g, fun j => w.heap.size ≤ j ∧ j < wr.heap.size, rfl, hN.gr, ⟨ads, cs, some ⟨w.heap.size, 0, none⟩, i, fun _ => none, fun _ => 0, bd, ?_⟩, fun j hj => hj.1⟩
      have hpv : poolV (newF a i) ads cs (some ⟨w.heap.size, 0, none⟩) i (fun _ => none) (fun _ => 0) = poolN (a : Int) (.slice ads i cs) (.slice (some ⟨w.heap.size, 0, none⟩) i i) := by
        unfold poolV poolN
        rw [hbl, htl]
        rw [flat_congr (G := fun _ => landV noLand none 0) 256 (fun j hj => by rw [landAt_new])]
        rfl
      refine ⟨by rw [hpv]; exact hN.blk, by rw [hbl]; exact hN.row.base (Nat.zero_le _), ?_, fun j hj => ?_, fun j hj => ?_, fun j k hj hk => hN.inj j k (by omega) (by omega), fun j k x y _ _ hx => (by cases hx), ⟨hN.hg, hN.blk.lt⟩, fun x hx => ⟨(hN.row.lt x hx).1, (hN.row.lt x hx).2⟩, fun x hx => ⟨(hN.tak.lt x hx).1, (hN.tak.lt x hx).2⟩, fun j hj => ⟨(hN.slab j (by omega)).2, (hN.slab j (by omega)).1.lt⟩, fun j x _ hx => (by cases hx), fun j hj => hj.2⟩
      · rw [htl]
        show Owns wr 0 _ 1 _ _ i ((List.replicate i false).map .bool)
        rw [List.map_replicate]
        exact hN.tak.base (Nat.zero_le _)
      · have e : bytesAt (newF a i) j = List.replicate a 0 := by
          unfold bytesAt newF
          simp only [List.getD_eq_getElem?_getD, List.getElem?_replicate]
          rw [if_pos (by omega)]; rfl
        rw [e]
        exact (hN.slab j (by omega)).1
      · rw [landAt_new]
        exact Owns.empty _ _ _ _
end Go.Proofs.Ytpaogoehgkoaeaa
/- Layer 1 (region): the pool's calls, as a law uses them; fertile. -/
namespace Go.Proofs.Ytpaogoehgkoaeaa
set_option linter.unusedVariables false
set_option linter.unusedSimpArgs false
open Go.RowKit
/-- a pool of a law's own -/
structure Pl (w0 w : World) (S : Nat → Prop) (g : Nat) (p : PoolF) : Prop where
  gr : Gr w0 w
  pool : PoolAt w S g p
  ok : PoolOk p
  base : ∀ j, S j → w0.heap.size ≤ j
section
variable {w0 w w' : World} {S S' : Nat → Prop} {g : Nat} {p p' : PoolF}
theorem Pl.moved (h : Pl w0 w S g p) (k : Moved S g p' w w' S') (ok' : PoolOk p') : Pl w0 w' S' g p' :=
  ⟨k.chg.gr h.gr h.base, k.pool, ok', fun j hj => by
    rcases k.sub j hj with h1 | h1
    · exact h.base j h1
    · exact Nat.le_trans h.gr.size h1⟩
theorem Pl.more (h : Pl w0 w S g p) (k : Gr w w') : Pl w0 w' S g p := ⟨h.gr.trans k, h.pool.gr k, h.ok, h.base⟩
theorem make_ok2 (h : PoolOk p) : PoolOk (makeR p).2.2 := by
  unfold makeR
  cases hm : makeF p with
  | none => exact h
  | some i =>
    obtain ⟨h1, h2, _⟩ := makeF_some hm
    exact make_ok h h1 h2
theorem Make_pl (h : Pl w0 w S g p) (hgen : ∀ i, i < 256 → (landAt p i).gen ≤ 1000000000) {r e : Nat} (he : makeR p = (r, e, p')) :
    Calls Try.prog 21 #[.pointer (some ⟨g, 0, none⟩)] w fun x w' => x = .returned (.tuple #[.int .i64 (r : Int), .int .i64 (e : Int)]) ∧ Moved S g p' w w' S ∧ Pl w0 w' S g p' := by
  refine (Make_any w S g p h.pool h.ok hgen).mono fun x w' ⟨h1, h2⟩ => ?_
  have h3 := h.moved h2 (make_ok2 h.ok)
  rw [he] at h1 h2 h3
  exact ⟨h1, h2, h3⟩
theorem Alloc_pl (h : Pl w0 w S g p) {r n a : Int} {x : Hd} {e : Nat} (he : allocF p r n a = (x, e, p')) :
    Calls Try.prog 29 #[.pointer (some ⟨g, 0, none⟩), .int .i64 r, .int .i64 n, .int .i64 a] w fun y w' => y = .returned (.tuple #[.agg #[.int .i64 x.region, .int .i64 x.gen, .int .i64 x.off, .int .i64 x.len], .int .i64 (e : Int)]) ∧ ∃ S', Moved S g p' w w' S' ∧ Pl w0 w' S' g p' := by
  refine (Alloc_any w S g p r n a h.pool h.ok).mono fun y w' ⟨h1, S', h2⟩ => ?_
  have h3 := h.moved h2 (alloc_ok h.ok r n a)
  rw [he] at h1 h2 h3
  exact ⟨h1, S', h2, h3⟩
theorem Store_pl (h : Pl w0 w S g p) {x : Hd} {t : Int} {ad : Option Addr} {n cap : Nat} {b : List UInt8} {e : Nat} (hb : Bytes w ad b) (hn : b.length = n) (hnm : n ≤ 9223372036854775807) (he : storeF p x t b = (e, p')) :
    Calls Try.prog 30 #[.pointer (some ⟨g, 0, none⟩), .agg #[.int .i64 x.region, .int .i64 x.gen, .int .i64 x.off, .int .i64 x.len], .int .i64 t, .slice ad n cap] w fun y w' => y = .returned (.int .i64 (e : Int)) ∧ Moved S g p' w w' S ∧ Pl w0 w' S g p' := by
  refine (Store_any w S g p x t ad n cap b h.pool h.ok hb hn hnm).mono fun y w' ⟨h1, h2⟩ => ?_
  have h3 := h.moved h2 (store_ok h.ok x t b)
  rw [he] at h1 h2 h3
  exact ⟨h1, h2, h3⟩
theorem Free_pl (h : Pl w0 w S g p) {r : Int} {e : Nat} (he : freeF p r = (e, p')) :
    Calls Try.prog 34 #[.pointer (some ⟨g, 0, none⟩), .int .i64 r] w fun y w' => y = .returned (.int .i64 (e : Int)) ∧ Moved S g p' w w' S ∧ Pl w0 w' S g p' := by
  refine (Free_any w S g p r h.pool h.ok).mono fun y w' ⟨h1, h2⟩ => ?_
  have h3 := h.moved h2 (free_ok h.ok r)
  rw [he] at h1 h2 h3
  exact ⟨h1, h2, h3⟩
theorem Load_pl (h : Pl w0 w S g p) {x : Hd} {b : List UInt8} {e : Nat} (he : loadF p x = (b, e)) :
    Calls Try.prog 47 #[.pointer (some ⟨g, 0, none⟩), .agg #[.int .i64 x.region, .int .i64 x.gen, .int .i64 x.off, .int .i64 x.len]] w fun y w' => ∃ ad cap, y = .returned (.tuple #[.slice ad b.length cap, .int .i64 (e : Int)]) ∧ Owns w' w.heap.size 5 1 ad cap b.length (bv b) ∧ Gr w w' := by
  have := Load_any w S g p x h.pool h.ok
  rw [he] at this
  exact this
theorem Idle_pl (h : Pl w0 w S g p) : Calls Try.prog 12 #[.pointer (some ⟨g, 0, none⟩)] w fun e w' => e = .returned (.int .i64 (countF p : Int)) ∧ w = w' := Idle_any w S g p h.pool h.ok
theorem New_pl (k : Gr w0 w) (a n : Nat) (h1 : 64 ≤ a) (h2 : a ≤ 65536) (h3 : a % 8 = 0) (h4 : 1 ≤ n) (h5 : n ≤ 4096) (h6 : a * n ≤ 4194304) :
    Calls Try.prog 6 #[.int .i64 (a : Int), .int .i64 (n : Int)] w fun e w' => ∃ g S, e = .returned (.tuple #[.pointer (some ⟨g, 0, none⟩), .int .i64 0]) ∧ Gr w w' ∧ w.heap.size ≤ g ∧ Pl w0 w' S g (newF a n) ∧ ∀ j, S j → w.heap.size ≤ j :=
  (New_good w a n h1 h2 h3 h4 h5 h6).mono fun e w' ⟨g, S, e1, e2, e3, e4⟩ => ⟨g, S, e1, e2, (by obtain ⟨_, _, _, _, _, _, _, hx⟩ := e3; exact e4 g hx.sg), ⟨k.trans e2, e3, new_ok h1 h2 h3 h4 h5, fun j hj => Nat.le_trans k.size (e4 j hj)⟩, e4⟩
end
theorem bytes_new (w : World) (C : Array Value) (e : TypeId) (l : List UInt8) (h : C.toList = bv l) (gb : Nat) (hg : gb = w.heap.size) : Bytes (w.alloc (.cells C e)) (some ⟨gb, 0, none⟩) l := by
  subst hg; exact Bytes.alloc w C e (0, 0) l h
/-- a block that is none of the pool's -/
structure Out (S : Nat → Prop) (w : World) (b : Nat) : Prop where
  no : ¬ S b
  lt : b < w.heap.size
section
variable {w0 w w' : World} {S S' : Nat → Prop} {g b : Nat} {p p' : PoolF}
theorem Out.moved (h : Out S w b) (m : Moved S g p' w w' S') : Out S' w' b := ⟨fun e => by
  rcases m.sub b e with h1 | h1
  · exact h.no h1
  · have := h.lt; omega, Nat.lt_of_lt_of_le h.lt m.chg.size⟩
theorem Out.more (h : Out S w b) (k : Gr w w') : Out S w' b := ⟨h.no, Nat.lt_of_lt_of_le h.lt k.size⟩
theorem Out.new (h : Pl w0 w S g p) (o : Obj) : Out S (w.alloc o) w.heap.size := ⟨fun e => Nat.lt_irrefl _ (h.pool.lt _ e), by simp⟩
theorem Moved.blk (m : Moved S g p' w w' S') {t : TypeId} {cs : List Value} (hb : Blk w b t cs) (h : Out S w b) : Blk w' b t cs := m.chg.blk hb h.no
end
def fp0 : PoolF := newF 64 2
def fp1 : PoolF := (makeR fp0).2.2
def fp2 : PoolF := (allocF fp1 0 10 1).2.2
def fp3 : PoolF := (allocF fp2 0 8 8).2.2
def fp4 : PoolF := (storeF fp3 ⟨0, 1, 0, 10⟩ 0 [9]).2
def fp5 : PoolF := (freeF fp4 0).2
def fp6 : PoolF := (makeR fp5).2.2
def fp7 : PoolF := (allocF fp6 0 1 1).2.2
theorem fe1 : makeR fp0 = (0, 0, fp1) := by kernel_rfl
theorem fe2 : allocF fp1 0 10 1 = (⟨0, 1, 0, 10⟩, 0, fp2) := by kernel_rfl
theorem fe3 : allocF fp2 0 8 8 = (⟨0, 1, 16, 8⟩, 0, fp3) := by kernel_rfl
theorem fe4 : storeF fp3 ⟨0, 1, 0, 10⟩ 0 [9] = (0, fp4) := by kernel_rfl
theorem fe5 : freeF fp4 0 = (0, fp5) := by kernel_rfl
theorem fe6 : makeR fp5 = (0, 0, fp6) := by kernel_rfl
theorem fe7 : allocF fp6 0 1 1 = (⟨0, 2, 0, 1⟩, 0, fp7) := by kernel_rfl
theorem fe8 : loadF fp7 ⟨0, 1, 0, 10⟩ = ([], 3) := by kernel_rfl
theorem fe9 : loadF fp7 ⟨0, 2, 0, 1⟩ = ([0], 0) := by kernel_rfl
theorem fgen0 : ∀ i, i < 256 → (landAt fp0 i).gen ≤ 1000000000 := fun i _ => by unfold fp0; rw [landAt_new]; decide
theorem fgen5 : ∀ i, i < 256 → (landAt fp5 i).gen ≤ 1000000000 := by
  have : ∀ i : Fin 256, (landAt fp5 i.val).gen ≤ 1000000000 := by decide +kernel
  exact fun i hi => this ⟨i, hi⟩
end Go.Proofs.Ytpaogoehgkoaeaa
/- A block's whole row, loaded and stored at once; results that lie in rows. No program is in sight here. -/
namespace Go.Proofs.Ytpaogoehgkoaeaa
set_option linter.unusedVariables false
set_option linter.unusedSimpArgs false
open Go.RowKit
theorem rangeAt_blk {w : World} {g : Nat} {t : TypeId} {cs : List Value} (h : Blk w g t cs) : w.rangeAt g 0 cs := fun j v hv => by
  rw [Nat.zero_add]; exact h.cell hv
section
variable {P : Program}
theorem load_blk {w : World} {g : Nat} {t ty : TypeId} {cs : List Value} {d : TypeDesc} {n : Nat} (hb : Blk w g t cs) (hu : P.underlying ty = some d) (hd : d.isRow = true) (hi : (P.info? ty).map (·.size) = some n) (hn : cs.length = n) :
    (loadVar ty ⟨g, 0, none⟩).run P w = .ok (.agg cs.toArray) w := run_loadVar_mid w g 0 ty cs d (rangeAt_blk hb) hu hd (by rw [hn]; exact hi)
theorem wp_load_blk {w : World} {ops : Array Oper} {rest : List Oper} {o : Oper} {a : Act} {Q : Exit → Act → World → Prop} (hgd : o.guard = none) (ty : TypeId) (x : Operand) (ho : o.op = .load ty x)
    {g : Nat} {t : TypeId} {cs : List Value} {d : TypeDesc} {n : Nat} (hx : a.eval x = .pointer (some ⟨g, 0, none⟩)) (hb : Blk w g t cs) (hu : P.underlying ty = some d) (hd : d.isRow = true) (hi : (P.info? ty).map (·.size) = some n) (hn : cs.length = n)
    (h : wpList P ops Q rest (a.put o.dst (.agg cs.toArray)) w) : wpList P ops Q (o :: rest) a w :=
  wpList_load_mid hgd ty x ho g 0 hx cs d (rangeAt_blk hb) hu hd (by rw [hn]; exact hi) h
theorem wp_store_blk {w : World} {ops : Array Oper} {rest : List Oper} {o : Oper} {a : Act} {Q : Exit → Act → World → Prop} (hgd : o.guard = none) (ty : TypeId) (x y : Operand) (ho : o.op = .store ty x y)
    {g : Nat} {t : TypeId} {cs cs' : List Value} {n : Nat} (hx : a.eval x = .pointer (some ⟨g, 0, none⟩)) (hy : a.eval y = .agg cs'.toArray) (hb : Blk w g t cs) (hi : (P.info? ty).map (·.size) = some n) (hn : cs.length = n) (hn' : cs'.length = n) (h1 : ∀ v ∈ cs', v.oneCell' = true)
    (h : wpList P ops Q rest (a.put o.dst undef) (w.setRow g cs'.toArray)) : wpList P ops Q (o :: rest) a w := by
  refine wpList_plain hgd fun K hK => ?_
  have hr := run_storeVar_row (P := P) w g t ty cs.toArray cs'.toArray hb (by rw [hi]; simp [hn']) (by simp [hn, hn']) (all_oneCell_toArray h1)
  unfold Oper.wp execOp
  simp only [ho, hx, hy, Instr.storeAt, Instr.sureAddr, Sem.run_bind, Sem.run_pure, Result.andThen_ok, hr]
  exact hK _ _ h
theorem Blk.setRow' {w : World} {b : Nat} {e : TypeId} {cs : List Value} (h : Blk w b e cs) (ds : List Value) : Blk (w.setRow b ds.toArray) b e ds := setRow_heap w b cs.toArray ds.toArray e (0, 0) h
theorem gr_setRow {a w : World} {b : Nat} (h : Gr a w) (hb : a.heap.size ≤ b) (cs : Array Value) : Gr a (w.setRow b cs) :=
  h.grown (row := some b) ⟨rfl, rfl, rfl, by simp, fun k _ hk => setRow_other w b k cs (fun e => hk (by rw [e]))⟩ (fun k e => by cases e; exact hb)
theorem Blk.row_far {w : World} {g b : Nat} {t : TypeId} {cs : List Value} (h : Blk w g t cs) (hne : g ≠ b) (ds : Array Value) : Blk (w.setRow b ds) g t cs := (setRow_other w b g ds hne).trans h
/-- the same, the world behind it any that holds the row -/
theorem wp_store_row {w : World} {ops : Array Oper} {rest : List Oper} {o : Oper} {a : Act} {Q : Exit → Act → World → Prop} (hgd : o.guard = none) (ty : TypeId) (x y : Operand) (ho : o.op = .store ty x y)
    {g : Nat} {t : TypeId} {cs cs' : List Value} {n : Nat} (hx : a.eval x = .pointer (some ⟨g, 0, none⟩)) (hy : a.eval y = .agg cs'.toArray) (hb : Blk w g t cs) (hi : (P.info? ty).map (·.size) = some n) (hn : cs.length = n) (hn' : cs'.length = n) (h1 : ∀ v ∈ cs', v.oneCell' = true)
    (h : ∀ w', Blk w' g t cs' → w.grownBy w' (some g) → wpList P ops Q rest (a.put o.dst undef) w') : wpList P ops Q (o :: rest) a w :=
  wp_store_blk hgd ty x y ho hx hy hb hi hn hn' h1 (h _ (hb.setRow' cs') ⟨rfl, rfl, rfl, by simp, fun k _ hk => setRow_other w g k _ (fun e => hk (by rw [e]))⟩)
theorem results_cell_tmp {fn : Func} {t u : Tmp} {ty : TypeId} (h : fn.results = #[.cell t ty, .tmp u]) {tmps : Array Value} {w : World} {g : Nat} {v : Value} (ht : tmps.getD t undef = .pointer (some ⟨g, 0, none⟩)) (hl : (loadVar ty ⟨g, 0, none⟩).run P w = .ok v w) :
    (results fn tmps).run P w = .ok (.tuple #[v, tmps.getD u undef]) w := by
  have ht' : tmps[t]?.getD undef = .pointer (some ⟨g, 0, none⟩) := by simpa using ht
  simp [results, h, Sem.run_bind, ht', hl, asAddr]
theorem results_cell2_tmp {fn : Func} {t u v : Tmp} {ty ty2 : TypeId} (h : fn.results = #[.cell t ty, .cell u ty2, .tmp v]) {tmps : Array Value} {w : World} {g g2 : Nat} {x y : Value} (ht : tmps.getD t undef = .pointer (some ⟨g, 0, none⟩)) (hl : (loadVar ty ⟨g, 0, none⟩).run P w = .ok x w)
    (ht2 : tmps.getD u undef = .pointer (some ⟨g2, 0, none⟩)) (hl2 : (loadVar ty2 ⟨g2, 0, none⟩).run P w = .ok y w) :
    (results fn tmps).run P w = .ok (.tuple #[x, y, tmps.getD v undef]) w := by
  have ht' : tmps[t]?.getD undef = .pointer (some ⟨g, 0, none⟩) := by simpa using ht
  have ht2' : tmps[u]?.getD undef = .pointer (some ⟨g2, 0, none⟩) := by simpa using ht2
  simp [results, h, Sem.run_bind, ht', hl, ht2', hl2, asAddr]
end
end Go.Proofs.Ytpaogoehgkoaeaa
/- Layer 11 (skip): a list in memory; a node's bytes read. -/
namespace Go.Proofs.Ytpaogoehgkoaeaa
set_option linter.unusedVariables false
set_option linter.unusedSimpArgs false
open Go.RowKit Ikey Varint
set_option maxRecDepth 100000 in
set_option maxHeartbeats 1000000 in
theorem Fixed_any (n : Nat) (s : Int) (w : World) (hn : n < 18446744073709551616) (h1 : -9223372036854775808 ≤ s) (h2 : s ≤ 9223372036854775807) :
    Calls Try.prog 26 #[.int .u64 n, .int .i64 s] w (RetBE 5 w (fixedF n s).1 (fixedF n s).2) := by
  by_cases hs : s < 0 ∨ 8 < s
  · have H := Lib.hid (show fixedF n s = ([], 1) by unfold fixedF; rw [if_pos hs])
    rcases hs with hs | hs
    all_goals
      go_enter Try.func26, Try.ntmps26
      go_wp2
      go_ret2
      refine ⟨none, 0, ?_, ?_, Gr.refl _⟩
      · rw [H.out]; rfl
      · rw [H.out]; exact Owns.empty _ _ _ _
  · obtain ⟨k, rfl⟩ := Int.eq_ofNat_of_zero_le (show 0 ≤ s by omega)
    have hk : k ≤ 8 := by omega
    clear hs h1 h2
    have HP := Lib.hid (show (n : Int) / 2 ^ (8 * k) = ((n / 256 ^ k : Nat) : Int) by rw [pow256]; simp)
    by_cases hb : n / 256 ^ k = 0
    · have H := Lib.hid (show fixedF n k = (bytesN k n, 0) by unfold fixedF; rw [if_neg (by omega), if_neg (by simpa using hb)]; rfl)
      have hq : ((n : Int) / 2 ^ (8 * k) != 0) = false := by rw [HP.out, hb]; rfl
      have HB := Lib.hid hb; clear hb
      by_cases hk8 : k < 8
      all_goals
        go_enter Try.func26, Try.ntmps26
        go_wp2
        go_loopw [0, 6, 25] (fun v b i wr => ∃ (j : Nat) (ad : Option Addr) (cap : Nat), j ≤ k ∧ i = .int .i64 j ∧ v = .int .u64 ((n / 256 ^ j : Nat) : Int) ∧ b = .slice ad j cap ∧ Owns wr w.heap.size 5 1 ad cap j (bv (bytesN j n)) ∧ Gr w wr) (fun _ _ i _ => k - (intOf i).toNat)
        case atStart => exact ⟨0, none, 0, Nat.zero_le _, rfl, by simp, rfl, Owns.empty _ _ _ _, Gr.refl _⟩
        case round =>
          obtain ⟨j, ad, cap, hj, rfl, rfl, rfl, ho, hg⟩ := hrel
          have hs := hg.size
          by_cases hlt : j < k
          · generalize hc : n / 256 ^ j = cur at *
            have hb : cur < 18446744073709551616 := by rw [← hc]; exact Nat.lt_of_le_of_lt (Nat.div_le_self _ _) hn
            have HC := Lib.hid hc; clear hc
            have HX := Lib.hid (show (cur : Int) % 256 = ((UInt8.ofNat cur).toNat : Int) by rw [UInt8.toNat_ofNat']; omega)
            go_wp2_with (at_builtin; refine wp_append elemB rfl _ _ rfl rfl (ho.gr (Gr.alloc _ _)) rfl (Src.one _ _ (UInt8.ofNat cur) HX.out Try.underlying45) (by unfold maxLen; omega) (by omega) (by simp; omega) ?_; intro ad2 cap2 w2 o2 k2 f2)
            go_roundw
            case rel =>
              refine ⟨j + 1, ad2, cap2, by omega, by go_num, ?_, rfl, ?_, hg.app ho (Nat.le_refl _) k2⟩
              · rw [Nat.pow_succ, ← Nat.div_div_eq_div_mul, HC.out]; go_num
              · rw [bytesN_snoc, bv_append, HC.out]; exact o2
            case measure => simp [intOf]; omega
          · obtain rfl : j = k := by omega
            go_wp2
            go_ret2
            refine ⟨ad, cap, ?_, ?_, hg⟩
            · rw [H.out]; simp only [bytesN_len]; rfl
            · rw [H.out]; simp only [bytesN_len]; exact ho
    · have hk8 : k < 8 := by
        rcases Nat.lt_or_ge k 8 with h | h
        · exact h
        · have : k = 8 := by omega
          subst this
          exact absurd (Nat.div_eq_of_lt (by omega)) hb
      have H := Lib.hid (show fixedF n k = ([], 14) by unfold fixedF; rw [if_neg (by omega), if_pos (by simpa using hb)])
      have hq : ((n : Int) / 2 ^ (8 * k) != 0) = true := by rw [HP.out, bne_iff_ne]; omega
      clear hb
      go_enter Try.func26, Try.ntmps26
      go_wp2
      go_ret2
      refine ⟨none, 0, ?_, ?_, Gr.refl _⟩
      · rw [H.out]; rfl
      · rw [H.out]; exact Owns.empty _ _ _ _
/-- numbers in so many bytes -/
theorem Whole_any (ad : Option Addr) (len cap : Nat) (l : List UInt8) (w : World) (hl : l.length = len) (hm : len ≤ maxLen) (hb : Bytes w ad l) :
    Calls Try.prog 53 #[.slice ad len cap] w fun e w' => e = .returned (.tuple #[.int .u64 (wholeF l).1, .int .i64 (wholeF l).2]) ∧ w = w' := by
  subst hl
  unfold maxLen at hm
  by_cases h8 : 8 < l.length
  · have H := Lib.hid (show wholeF l = (0, 1) by unfold wholeF; rw [if_pos h8])
    go_enter Try.func53, Try.ntmps53
    go_wp2
    go_ret2
    exact ⟨by rw [H.out]; rfl, rfl⟩
  · have H := Lib.hid (show wholeF l = (le l, 0) by unfold wholeF; rw [if_neg h8])
    go_enter Try.func53, Try.ntmps53
    go_wp2
    go_loop [4, 5, 6, 12] (fun v _ _ i => ∃ k : Nat, k ≤ l.length ∧ i = .int .i64 k ∧ v = .int .u64 (le (l.take k))) (fun _ _ _ i => l.length - (intOf i).toNat)
    case atStart => exact ⟨0, Nat.zero_le _, rfl, rfl⟩
    case round =>
      obtain ⟨k, hk, rfl, rfl⟩ := hrel
      by_cases hlt : k < l.length
      · obtain ⟨b, off, rfl, hc⟩ := hb k hlt
        have hx := byte_hi l[k]
        have h1 := le_take l k (by omega) (by omega)
        have HO := Lib.hid (u64_shl_or (le (l.take k)) l[k].toNat (8 * k) h1.1 (by have := le_fits k l[k].toNat (by omega) l[k].toNat_lt; exact this) h1.2)
        have HT := Lib.hid (le_take_succ l k hlt)
        have h2 := h1.2
        clear h1
        go_wp2
        go_round
        case rel => exact ⟨k + 1, by omega, by go_num, by rw [HO.out, HT.out]⟩
        case measure => simp [intOf]; omega
      · obtain rfl : k = l.length := by omega
        have HL := Lib.hid (List.take_length (l := l))
        go_wp2
        go_ret2
        exact ⟨by rw [H.out]; simp only [List.take_length]; rfl, rfl⟩
/-- a link, as a value -/
def lnk (q : Nat × Nat) : Value := .agg #[.int .i64 (q.1 : Int), .int .i64 (q.2 : Int)]
/-- links, one behind the other -/
def rowV (f : Nat → Nat × Nat) : Nat → List Value
  | 0 => []
  | n + 1 => rowV f n ++ [.int .i64 ((f n).1 : Int), .int .i64 ((f n).2 : Int)]
theorem rowV_len (f : Nat → Nat × Nat) : ∀ n, (rowV f n).length = 2 * n
  | 0 => rfl
  | n + 1 => by rw [rowV, List.length_append, rowV_len f n]; simp; omega
theorem rowV_congr {f g : Nat → Nat × Nat} : ∀ n, (∀ k, k < n → f k = g k) → rowV f n = rowV g n
  | 0, _ => rfl
  | n + 1, h => by rw [rowV, rowV, rowV_congr n (fun k hk => h k (by omega)), h n (by omega)]
theorem rowV_one (f : Nat → Nat × Nat) : ∀ n, ∀ v ∈ rowV f n, v.oneCell' = true
  | 0, v, h => by simp [rowV] at h
  | n + 1, v, h => by
    rw [rowV, List.mem_append] at h
    rcases h with h | h
    · exact rowV_one f n v h
    · simp only [List.mem_cons, List.not_mem_nil, or_false] at h
      rcases h with rfl | rfl <;> rfl
theorem rowV_get (f : Nat → Nat × Nat) : ∀ n k, k < n → (rowV f n)[k * 2]? = some (.int .i64 ((f k).1 : Int)) ∧ (rowV f n)[k * 2 + 1]? = some (.int .i64 ((f k).2 : Int))
  | 0, k, h => by omega
  | n + 1, k, h => by
    rw [rowV]
    have hl := rowV_len f n
    by_cases e : k = n
    · subst e
      rw [List.getElem?_append_right (by omega), List.getElem?_append_right (by omega), hl, show k * 2 - 2 * k = 0 by omega, show k * 2 + 1 - 2 * k = 1 by omega]
      exact ⟨rfl, rfl⟩
    · rw [List.getElem?_append_left (by omega), List.getElem?_append_left (by omega)]
      exact rowV_get f n k (by omega)
theorem rowV_set (f : Nat → Nat × Nat) (q : Nat × Nat) : ∀ n k, k < n → ((rowV f n).set (k * 2) (.int .i64 (q.1 : Int))).set (k * 2 + 1) (.int .i64 (q.2 : Int)) = rowV (upd f k q) n
  | 0, k, h => by omega
  | n + 1, k, h => by
    rw [rowV, rowV]
    have hl := rowV_len f n
    by_cases e : k = n
    · subst e
      rw [List.set_append_right _ _ (by omega), List.set_append_right _ _ (by omega), hl, show k * 2 - 2 * k = 0 by omega, show k * 2 + 1 - 2 * k = 1 by omega, upd_same, rowV_congr k (fun i hi => (upd_other f q (show i ≠ k by omega)).symm)]
      rfl
    · rw [List.set_append_left _ _ (by omega), List.set_append_left _ _ (by rw [List.length_set]; omega), rowV_set f q n k (by omega), upd_other _ _ (fun e2 => e e2.symm)]
/-- a list in plain words -/
structure Ls where
  r : Nat
  gen : Nat
  hd : Nat → Nat × Nat
  cnt : Nat
  wt : Nat
  fz : Bool
  fd : Bool
def lstV (g : Nat) (L : Ls) : List Value := [.pointer (some ⟨g, 0, none⟩), .int .i64 (L.r : Int), .int .i64 (L.gen : Int)] ++ (rowV L.hd 12 ++ [.int .i64 (L.cnt : Int), .int .i64 (L.wt : Int), .bool L.fz, .bool L.fd])
section
variable {w w' : World} {g gl : Nat} {L : Ls}
theorem lstV_mid (g : Nat) (L : Ls) {k : Nat} {v : Value} (hk : k < 24) (h : (rowV L.hd 12)[k]? = some v) : (lstV g L)[3 + k]? = some v := by
  unfold lstV
  rw [List.getElem?_append_right (by simp), show 3 + k - [Value.pointer (some ⟨g, 0, none⟩), .int .i64 (L.r : Int), .int .i64 (L.gen : Int)].length = k by simp,
    List.getElem?_append_left (by rw [rowV_len]; omega)]
  exact h
theorem lst_heads (h : Blk w gl 65 (lstV g L)) : w.cell? ⟨gl, 0, none⟩ = some (.pointer (some ⟨g, 0, none⟩)) ∧ w.cell? ⟨gl, 1, none⟩ = some (.int .i64 (L.r : Int)) ∧ w.cell? ⟨gl, 2, none⟩ = some (.int .i64 (L.gen : Int)) :=
  ⟨h.cell rfl, h.cell rfl, h.cell rfl⟩
theorem lst_tail (h : Blk w gl 65 (lstV g L)) : w.cell? ⟨gl, 27, none⟩ = some (.int .i64 (L.cnt : Int)) ∧ w.cell? ⟨gl, 28, none⟩ = some (.int .i64 (L.wt : Int)) ∧ w.cell? ⟨gl, 29, none⟩ = some (.bool L.fz) ∧ w.cell? ⟨gl, 30, none⟩ = some (.bool L.fd) :=
  ⟨h.cell rfl, h.cell rfl, h.cell rfl, h.cell rfl⟩
theorem lst_head (h : Blk w gl 65 (lstV g L)) {k : Nat} (hk : k < 12) : w.cell? ⟨gl, 3 + k * 2, none⟩ = some (.int .i64 ((L.hd k).1 : Int)) ∧ w.cell? ⟨gl, 3 + k * 2 + 1, none⟩ = some (.int .i64 ((L.hd k).2 : Int)) := by
  obtain ⟨h1, h2⟩ := rowV_get L.hd 12 k hk
  exact ⟨h.cell (lstV_mid g L (by omega) h1), h.cell (lstV_mid g L (by omega) h2)⟩
end
/-- a list in a pool in memory -/
structure Sk (w : World) (S : Nat → Prop) (g gl : Nat) (p : PoolF) (L : Ls) : Prop where
  pool : PoolAt w S g p
  ok : PoolOk p
  blk : Blk w gl 65 (lstV g L)
  out : ¬ S gl
theorem Sk.gr {w w' : World} {S : Nat → Prop} {g gl : Nat} {p : PoolF} {L : Ls} (h : Sk w S g gl p L) (k : Gr w w') : Sk w' S g gl p L := ⟨h.pool.gr k, h.ok, h.blk.gr k, h.out⟩

theorem Blk.two {w : World} {g : Nat} {t : TypeId} {a b : Value} (h : Blk w g t [a, b]) : w.cell? ⟨g, 0, none⟩ = some a ∧ w.cell? ⟨g, 1, none⟩ = some b ∧ w.frozen? ⟨g, 0, none⟩ = false ∧ w.frozen? ⟨g, 1, none⟩ = false :=
  ⟨h.cell rfl, h.cell rfl, h.frozen _, h.frozen _⟩
end Go.Proofs.Ytpaogoehgkoaeaa
/- Layer 11 (skip): a node's bytes read. -/
namespace Go.Proofs.Ytpaogoehgkoaeaa
set_option linter.unusedVariables false
set_option linter.unusedSimpArgs false
open Go.RowKit Ikey Varint
set_option maxRecDepth 100000 in
theorem number_any (ad : Option Addr) (n cap : Nat) (l : List UInt8) (w : World) (hl : l.length = n) (hm : n ≤ 4) (hb : Bytes w ad l) :
    Calls Try.prog 48 #[.slice ad n cap] w fun e w' => e = .returned (.int .i64 (le l : Nat)) ∧ w = w' := by
  have h := Whole_any ad n cap l w hl (by unfold maxLen; omega) hb
  have e : wholeF l = (le l, 0) := by unfold wholeF; rw [if_neg (by omega)]
  rw [e] at h
  have h4 := le_lt l
  have h5 : 256 ^ l.length ≤ 256 ^ 4 := Nat.pow_le_pow_right (by decide) (by omega)
  have hle : le l < 4294967296 := by omega
  have H := Lib.hid h
  clear h e h4 h5 hb
  generalize le l = x at *
  go_enter Try.func48, Try.ntmps48
  go_wp2_with (go_at_call 53; refine H.out.mono ?_; rintro e w' ⟨rfl, rfl⟩)
  go_ret
  exact ⟨rfl, rfl⟩
set_option maxRecDepth 100000 in
set_option maxHeartbeats 1000000 in
theorem link_any (b o cap k x y : Nat) (l : List UInt8) (w : World) (hk : k < 12) (hl : 5 + 8 * k + 8 ≤ l.length) (hl2 : l.length ≤ 2000) (hc : l.length ≤ cap) (hb : Bytes w (some ⟨b, o, none⟩) l)
    (hx : (l.drop (5 + 8 * k)).take 4 = bytesN 4 x) (hy : (l.drop (5 + 8 * k + 4)).take 4 = bytesN 4 y) (hx4 : x < 4294967296) (hy4 : y < 4294967296) :
    Calls Try.prog 42 #[.slice (some ⟨b, o, none⟩) l.length cap, .int .i64 (k : Int)] w fun e w' => e = .returned (lnk (x, y)) ∧ Gr w w' := by
  have e1 : le (bytesN 4 x) = x := le_bytesN' 4 x hx4
  have e2 : le (bytesN 4 y) = y := le_bytesN' 4 y hy4
  have H1 := Lib.hid (fun w' (h : Bytes w' (some ⟨b, o, none⟩) l) c => number_any (some ⟨b, o + (5 + 8 * k), none⟩) 4 c _ w' (by simp; omega) (by omega) ((h.drop (5 + 8 * k)).take 4))
  have H2 := Lib.hid (fun w' (h : Bytes w' (some ⟨b, o, none⟩) l) c => number_any (some ⟨b, o + (5 + 8 * k + 4), none⟩) 4 c _ w' (by simp; omega) (by omega) ((h.drop (5 + 8 * k + 4)).take 4))
  rw [hx, e1] at H1
  rw [hy, e2] at H2
  have HB := Lib.hid hb
  clear hx hy e1 e2 hb
  obtain ⟨at_, hat⟩ : ∃ at_, at_ = 5 + 8 * k := ⟨_, rfl⟩
  have hatI : 5 + 8 * (k : Int) = (at_ : Int) := by omega
  rw [← hat] at H1 H2 hl
  clear hat
  have hat2 : at_ ≤ 2000 := by omega
  have hcap : at_ + 8 ≤ cap := by omega
  have hne : ¬ cap = at_ := by omega
  have hne2 : ¬ cap = at_ + 4 := by omega
  clear hx4 hy4 hk hl2 hl hc
  unfold lnk
  go_enter Try.func42, Try.ntmps42
  go_wp2
  refine region_tail_gr 14 _ [Is (.slice (some ⟨b, o, none⟩) l.length cap), Is (.int .i64 (at_ : Int)), Is ?r2, Is (.int .i64 ((at_ : Int) + 4)), Is (.slice (some ⟨b, o + at_, none⟩) 4 (cap - at_)), Is (.int .i64 (x : Int)), Is (.slice (some ⟨b, o, none⟩) l.length cap), Is ?r7, Is (.int .i64 ((at_ : Int) + 4)), Is (.int .i64 (at_ : Int)), Is (.int .i64 ((at_ : Int) + 8)), Is (.slice (some ⟨b, o + (at_ + 4), none⟩) 4 (cap - (at_ + 4))), Is (.int .i64 (y : Int)), Is (.agg #[.int .i64 (x : Int), .int .i64 (y : Int)])] (by kernel_rfl) (by kernel_rfl) (by kernel_rfl) (by kernel_rfl) rfl rfl ⟨Is.stable _, Is.stable _, Is.stable _, Is.stable _, Is.stable _, Is.stable _, Is.stable _, Is.stable _, Is.stable _, Is.stable _, Is.stable _, Is.stable _, Is.stable _, Is.stable _, trivial⟩ ⟨?s0, ?s1, ?s2, ?s3, ?s4, ?s5, ?s6, ?s7, ?s8, ?s9, ?s10, ?s11, ?s12, ?s13, trivial⟩ ?fin
  case' s0 | s1 | s2 | s3 | s4 | s5 | s6 | s7 | s8 | s9 | s10 | s11 | s12 | s13 =>
    intro ρ wr hρ hg hK
    simp [readsOf, slotsOf, Op.operands, Call.operands, tmpOf, List.filterMap_cons, List.filterMap_nil, KnownAll, knownOf, srcOf, depsOf, dstOf, Region.binds, nth, Is] at hK
    obtain ⟨hc, hf, hgl⟩ := hρ
    try simp only [wantedBy, dstOf, boolOf, nth, List.getD_cons_zero, List.getD_cons_succ, List.getElem?_cons_zero, List.getElem?_cons_succ, Option.bind_some, if_true, hK, BEq.rfl]
    try go_simp
    first | exact rfl | (rw [if_pos (by omega)]; exact is_here rfl) | (rw [dif_pos (by omega)]; exact is_here rfl) | exact congrArg (Value.int _) (IntWalk.i64_in _ ⟨by omega, by omega⟩) | skip
  case s4 =>
    rw [if_pos (by omega), if_pos (by omega), show ((at_ : Int) + 4).toNat - at_ = 4 by omega]
    exact is_here rfl
  case s5 => exact any_same (H1.out _ (HB.out.gr ((Gr.alloc _ _).trans hg)) _)
  case s11 =>
    rw [if_pos (by omega), if_pos (by omega), show ((at_ : Int) + 8).toNat - ((at_ : Int) + 4).toNat = 4 by omega, show ((at_ : Int) + 4).toNat = at_ + 4 by omega, if_neg hne2]
    exact is_here rfl
  case s12 => exact any_same (H2.out _ (HB.out.gr ((Gr.alloc _ _).trans hg)) _)
  case fin =>
    intro w1 val hg hH
    simp only [Holds, Is, Nat.zero_add, Nat.reduceAdd] at hH
    obtain ⟨h0, h1, h2, h3, h4, h5, h6, h7, h8, h9, h10, h11, h12, h13, _⟩ := hH
    simp only [List.take_succ_cons, List.take_zero, List.drop_succ_cons, List.drop_zero, putAll, h0, h1, h2, h3, h4, h5, h6, h7, h8, h9, h10, h11, h12, h13, Nat.zero_add, Nat.reduceAdd]
    obtain ⟨c0, c1, f0, f1⟩ := (Blk.of1 hg).two
    go_simp
    go_wp2
    refine bodyPost_ret (v := .agg #[.int .i64 (x : Int), .int .i64 (y : Int)]) (by simp [results, Try.results42, go_sem, c0, c1]) rfl ⟨rfl, ?_⟩
    exact (((Gr.alloc _ _).trans hg).setCell (Nat.le_refl _) _).setCell (Nat.le_refl _) _
/-- a cell, as a value -/
def ceV (c : Ce) : Value := .agg #[.string (str c.key), .int .i64 (c.seq : Int), .int .i64 (c.kind : Int), .string (str c.val)]
set_option maxRecDepth 100000 in
set_option maxHeartbeats 1000000 in
theorem cell_any (b o cap n t : Nat) (f : Nat → Nat × Nat) (c : Ce) (w : World) (t1 : 1 ≤ t) (t2 : t ≤ 12) (hok : okV c.key c.seq c.kind = true) (hv : c.val.length ≤ 1000) (hn : (nodeB t f c).length = n) (hc : n ≤ cap) (hcm : cap ≤ maxLen) (hb : Bytes w (some ⟨b, o, none⟩) (nodeB t f c)) :
    Calls Try.prog 36 #[.slice (some ⟨b, o, none⟩) n cap] w fun e w' => e = .returned (.tuple #[ceV c, .int .i64 0]) ∧ Gr w w' := by
  obtain ⟨p0, p1, p2, p3, p4⟩ := nodeB_parts t f c
  have hnl := nodeB_len t f c
  obtain ⟨k1, k2, _⟩ := okV_of hok
  have hdec : decF (encF c.key c.seq c.kind) = some (c.key, c.seq, c.kind) := decF_iff.2 ⟨hok, rfl⟩
  have hEl := enc_len c.key c.seq c.kind
  unfold ceV
  obtain ⟨key, seq, kind, vl⟩ := c
  simp only at *
  generalize nodeB t f ⟨key, seq, kind, vl⟩ = l at *
  generalize encF key seq kind = E at *
  obtain ⟨K, hK⟩ : ∃ K, K = key.length + 8 := ⟨_, rfl⟩
  obtain ⟨V, hV⟩ : ∃ V, V = vl.length := ⟨_, rfl⟩
  obtain ⟨Fr, hF⟩ : ∃ Fr, Fr = 5 + 8 * t := ⟨_, rfl⟩
  rw [← hK] at hnl hEl p1 p3 p4
  rw [← hV] at hnl hv p2 p4
  rw [← hF] at hnl p3 p4
  have hFI : 5 + 8 * (t : Int) = (Fr : Int) := by omega
  have e1 : le (bytesN 2 K) = K := le_bytesN' 2 K (by omega)
  have e2 : le (bytesN 2 V) = V := le_bytesN' 2 V (by omega)
  have hz : w.cell? ⟨b, o, none⟩ = some (.int .u8 (t : Int)) := by
    obtain ⟨b', o', e, h⟩ := hb 0 (by omega)
    cases e
    have hx : l[0]'(by omega) = UInt8.ofNat t := by
      have := List.getElem?_eq_getElem (l := l) (i := 0) (by omega)
      rw [p0] at this
      exact (Option.some.inj this).symm
    rw [hx, UInt8.toNat_ofNat', Nat.mod_eq_of_lt (by omega)] at h
    exact h
  have hz1 := (Gr.alloc w (.cells #[.string ⟨#[]⟩, .int .i64 0, .int .i64 0, .string ⟨#[]⟩] 36)).cell hz
  have hn0 : 0 < n := by omega
  clear hz
  have H1 := Lib.hid (fun w' (h : Bytes w' (some ⟨b, o, none⟩) l) c => number_any (some ⟨b, o + 1, none⟩) 2 c _ w' (by simp; omega) (by omega) ((h.drop 1).take 2))
  have H2 := Lib.hid (fun w' (h : Bytes w' (some ⟨b, o, none⟩) l) c => number_any (some ⟨b, o + 3, none⟩) 2 c _ w' (by simp; omega) (by omega) ((h.drop 3).take 2))
  have HD := Lib.hid (fun w' (h : Bytes w' (some ⟨b, o, none⟩) l) c hc => Decode_any (some ⟨b, o + Fr, none⟩) c E w' hc (by unfold maxLen; omega) (p3 ▸ ((h.drop Fr).take K)))
  obtain ⟨adV, hadV⟩ : ∃ adV : Option Addr, adV = if cap = Fr + K then some ⟨b, o, none⟩ else some ⟨b, o + (Fr + K), none⟩ := ⟨_, rfl⟩
  have HV := Lib.hid (fun w' (h : Bytes w' (some ⟨b, o, none⟩) l) c => run_string (P := Try.prog) (cap := c) Try.underlying45 Try.underlying5 Try.underlying9 (w := w') (len := V) (l := vl) (ad := adV) (by rw [hV]) (by
    by_cases e : cap = Fr + K
    · have : vl = [] := List.eq_nil_of_length_eq_zero (by omega)
      rw [this]; exact fun i hi => absurd hi (by simp)
    · rw [hadV, if_neg e]; exact p4 ▸ ((h.drop (Fr + K)).take V)))
  have HA := Lib.hid hadV
  clear hadV
  rw [p1, e1] at H1
  rw [p2, e2] at H2
  rw [hdec, hEl] at HD
  unfold outV ver at HD
  have HB := Lib.hid hb
  clear hb p0 p1 p2 p3 p4 e1 e2 hdec hEl hok k1
  have hF2 : Fr ≤ 101 := by omega
  have hK2 : K ≤ 72 := by omega
  have hcap : Fr + K + V ≤ cap := by omega
  have hcap1 : Fr + K ≤ cap := by omega
  have hne : ¬ cap = Fr := by omega
  have hcmI : (cap : Int) ≤ 9223372036854775807 := by unfold maxLen at hcm; omega
  clear hK hV hF hnl hcm k2
  go_enter Try.func36, Try.ntmps36
  go_wp2_with (first
    | (go_at_call 48; refine (H1.out _ (HB.out.gr (Gr.alloc _ _)) _).mono ?_; rintro e w' ⟨rfl, rfl⟩)
    | (go_at_call 49; refine (HD.out _ (HB.out.gr (Gr.alloc _ _)) _ (by omega)).mono ?_; rintro e w2 ⟨rfl, g2⟩)
    | fail)
  obtain ⟨Po, hPo⟩ : ∃ Po, Po = w.heap.size := ⟨_, rfl⟩
  have bP : Blk (w2.alloc (.cells #[.string (str key), .int .i64 (seq : Int), .int .i64 (kind : Int)] 34)) Po 36 [.string ⟨#[]⟩, .int .i64 0, .int .i64 0, .string ⟨#[]⟩] := by rw [hPo]; exact (Blk.of1 g2).alloc _
  have hPW : Po < w2.heap.size := by rw [hPo]; exact (Blk.of1 g2).lt
  obtain ⟨cv0, cv1, cv2, _⟩ := (Blk.new w2 34 #[.string (str key), .int .i64 (seq : Int), .int .i64 (kind : Int)]).three
  have gW : Gr w (w2.alloc (.cells #[.string (str key), .int .i64 (seq : Int), .int .i64 (kind : Int)] 34)) := ((Gr.alloc _ _).trans g2).trans (Gr.alloc _ _)
  have hbl : b < w.heap.size := by obtain ⟨_, _, e, h⟩ := HB.out 0 (by rw [hn]; exact hn0); cases e; exact World.block_lt_of_cell? w _ h
  have BW := Lib.hid (HB.out.gr gW)
  have hPV : (some w2.heap.size : Option Nat) ≠ some Po := by simp; omega
  have hPb : b ≠ Po := by omega
  have HPO := Lib.hid hPo
  rw [← hPo]
  clear hPo HB
  generalize (w2.alloc (.cells #[.string (str key), .int .i64 (seq : Int), .int .i64 (kind : Int)] 34)) = W at *
  have BP := Lib.hid bP
  obtain ⟨A, hA⟩ : ∃ A, A = W.heap[Po]? := ⟨_, rfl⟩
  have HA2 := Lib.hid hA
  clear hA bP
  have HBK := Lib.hid (show ∀ x : Addr, (some (⟨b, o, none⟩ : Addr)) = some x → some x.block ≠ some Po from fun x hx h => by cases hx; cases h; exact hPb rfl)
  have HWB := Lib.hid (fun wr (h : Once (some Po) A (some (.cells #[.string (str key), .int .i64 (seq : Int), .int .i64 (kind : Int), .string (str vl)] 36 (0, 0))) W wr) => h.bytes BW.out HBK.out)
  refine region_store_once (some Po) A (some (.cells #[.string (str key), .int .i64 (seq : Int), .int .i64 (kind : Int), .string (str vl)] 36 (0, 0))) _ [Is (.agg #[.string (str key), .int .i64 (seq : Int), .int .i64 (kind : Int)]), Is (.slice (some ⟨b, o, none⟩) n cap), Is (.int .i64 ((Fr : Int) + (K : Int))), Is (.int .i64 ((Fr : Int) + (K : Int))), Is (.slice (some ⟨b, o, none⟩) n cap), Is (.slice (some ⟨b, o + 3, none⟩) 2 (cap - 3)), Is (.int .i64 (V : Int)), Is (.int .i64 ((Fr : Int) + (K : Int) + (V : Int))), Is (.slice adV V (cap - (Fr + K))), Is (.string (str vl)), Is (.agg #[.string (str key), .int .i64 (seq : Int), .int .i64 (kind : Int), .string (str vl)]), Is (.int .i64 0), StoredB (some Po) (some (.cells #[.string (str key), .int .i64 (seq : Int), .int .i64 (kind : Int), .string (str vl)] 36 (0, 0))), Is (.int .i64 0)] (by kernel_rfl) (by kernel_rfl) (by kernel_rfl) rfl rfl ⟨Is.stable _, Is.stable _, Is.stable _, Is.stable _, Is.stable _, Is.stable _, Is.stable _, Is.stable _, Is.stable _, Is.stable _, Is.stable _, Is.stable _, StoredB.stable, Is.stable _, trivial⟩ ⟨?s0x1, ?s1x1, ?s2x1, ?s3x1, ?s4x1, ?s5x1, ?s6x1, ?s7x1, ?s8x1, ?s9x1, ?s10x1, ?s11x1, ?s12x1, ?s13x1, trivial⟩ ?finx1
  case' s0x1 | s1x1 | s2x1 | s3x1 | s4x1 | s5x1 | s6x1 | s7x1 | s8x1 | s9x1 | s10x1 | s11x1 | s12x1 | s13x1 =>
    intro ρ wr hρ hg hK
    simp [readsOf, slotsOf, Op.operands, Call.operands, tmpOf, List.filterMap_cons, List.filterMap_nil, KnownAll, knownOf, srcOf, depsOf, dstOf, Region.binds, nth, Is] at hK
    obtain ⟨hc, hf, hgl⟩ := hρ
    try simp only [wantedBy, dstOf, boolOf, nth, List.getD_cons_zero, List.getD_cons_succ, List.getElem?_cons_zero, List.getElem?_cons_succ, Option.bind_some, if_true, hK, BEq.rfl]
    try go_simp
    first | exact rfl | (rw [if_pos (by omega)]; exact is_here rfl) | (rw [dif_pos (by omega)]; exact is_here rfl) | exact congrArg (Value.int _) (IntWalk.i64_in _ ⟨by omega, by omega⟩) | skip
  case s0x1 =>
    have d0 := hg.cell cv0 hPV; have d1 := hg.cell cv1 hPV; have d2 := hg.cell cv2 hPV
    go_simp
    exact rfl
  case s6x1 => exact (H2.out _ (HWB.out _ hg) _).mono fun e w'' ⟨h1, h2⟩ => ⟨_, h1, h2 ▸ Once.refl _, rfl⟩
  case s5x1 =>
    rw [if_pos (by omega), if_neg (by omega)]
    exact ⟨Once.refl _, rfl⟩
  case s8x1 =>
    rw [if_pos ⟨by omega, by omega⟩, if_pos ⟨by omega, by omega⟩]
    refine ⟨Once.refl _, ?_⟩
    rw [HA.out, show ((Fr : Int) + (K : Int)).toNat = Fr + K by omega, show ((Fr : Int) + (K : Int) + (V : Int)).toNat - (Fr + K) = V by omega]
    exact rfl
  case s9x1 =>
    rw [HV.out _ (HWB.out _ hg)]
    exact ⟨Once.refl _, rfl⟩
  case s12x1 =>
    have hcs := hg.2 Po rfl
    have hbk : ∃ x y z u, Blk wr Po 36 [x, y, z, u] := by
      rcases hcs with h | ⟨_, h⟩
      · exact ⟨_, _, _, _, h.trans BP.out⟩
      · exact ⟨_, _, _, _, h⟩
    obtain ⟨x, y, z, u, hbk⟩ := hbk
    obtain ⟨u0, u1, u2, u3, fz0, fz1, fz2, fz3⟩ := hbk.four
    have hb2 := (((hbk.set_ 0 (.string (str key))).set_ 1 (.int .i64 (seq : Int))).set_ 2 (.int .i64 (kind : Int))).set_ 3 (.string (str vl))
    simp only [List.set_cons_zero, List.set_cons_succ] at hb2
    go_simp
    refine ⟨⟨grown_trans (grown_trans (grown_trans (grown_set wr Po 0 _) (grown_set _ Po 1 _)) (grown_set _ Po 2 _)) (grown_set _ Po 3 _), fun g hg' => ?_⟩, fun g hg' => by cases hg'; exact hb2⟩
    cases hg'
    rcases hcs with h | ⟨_, h⟩
    · exact .inr ⟨h.trans HA2.out.symm, hb2⟩
    · exact .inl (hb2.trans h.symm)
  case finx1 =>
    intro w1 val hg hH
    simp only [Holds, Is, Nat.zero_add, Nat.reduceAdd] at hH
    obtain ⟨h0, h1, h2, h3, h4, h5, h6, h7, h8, h9, h10, h11, h12, h13, _⟩ := hH
    simp only [List.take_succ_cons, List.take_zero, List.drop_succ_cons, List.drop_zero, putAll, h0, h1, h2, h3, h4, h5, h6, h7, h8, h9, h10, h11, h13, Nat.zero_add, Nat.reduceAdd]
    have hb2 : Blk w1 Po 36 [.string (str key), .int .i64 (seq : Int), .int .i64 (kind : Int), .string (str vl)] := h12 Po rfl
    obtain ⟨d0, d1, d2, d3, _⟩ := hb2.four
    have gE : Gr w w1 := gW.grown hg.1 (fun g e => by cases e; exact Nat.le_of_eq HPO.out.symm)
    go_simp
    go_wp2
    refine bodyPost_ret (v := .tuple #[.agg #[.string (str key), .int .i64 (seq : Int), .int .i64 (kind : Int), .string (str vl)], .int .i64 0]) (by simp [results, Try.results36, go_sem, d0, d1, d2, d3]) rfl ?_
    exact ⟨rfl, gE⟩
end Go.Proofs.Ytpaogoehgkoaeaa
/- Layer 11 (skip): a node is loaded; the next one; is a version there. -/
namespace Go.Proofs.Ytpaogoehgkoaeaa
set_option linter.unusedVariables false
set_option linter.unusedSimpArgs false
open Go.RowKit Ikey Varint
set_option maxRecDepth 100000 in
set_option maxHeartbeats 1000000 in
theorem handle_any (w : World) (g gl : Nat) (L : Ls) (q : Nat × Nat) (hb : Blk w gl 65 (lstV g L)) :
    Calls Try.prog 46 #[.pointer (some ⟨gl, 0, none⟩), lnk q] w fun e w' => e = .returned (.agg #[.int .i64 (L.r : Int), .int .i64 (L.gen : Int), .int .i64 (q.1 : Int), .int .i64 (q.2 : Int)]) ∧ Gr w w' := by
  obtain ⟨q1, q2⟩ := q
  unfold lnk
  simp only
  have HB := Lib.hid ((hb.alloc (.cells #[.int .i64 (q1 : Int), .int .i64 (q2 : Int)] 62)).alloc (.cells #[.int .i64 0, .int .i64 0, .int .i64 0, .int .i64 0] 78))
  clear hb
  have g0 : Gr w ((w.alloc (.cells #[.int .i64 (q1 : Int), .int .i64 (q2 : Int)] 62)).alloc (.cells #[.int .i64 0, .int .i64 0, .int .i64 0, .int .i64 0] 78)) := (Gr.alloc _ _).trans (Gr.alloc _ _)
  go_enter Try.func46, Try.ntmps46
  go_wp2
  refine region_tail_gr 13 _ [Is ?r0, Is ?r1, Is ?r2, Is (.int .i64 (L.r : Int)), Is ?r4, Is ?r5, Is ?r6, Is (.int .i64 (L.gen : Int)), Is ?r8, Is (.int .i64 (q1 : Int)), Is ?r10, Is (.int .i64 (q2 : Int)), Is (.agg #[.int .i64 (L.r : Int), .int .i64 (L.gen : Int), .int .i64 (q1 : Int), .int .i64 (q2 : Int)])] (by kernel_rfl) (by kernel_rfl) (by kernel_rfl) (by kernel_rfl) rfl rfl ⟨Is.stable _, Is.stable _, Is.stable _, Is.stable _, Is.stable _, Is.stable _, Is.stable _, Is.stable _, Is.stable _, Is.stable _, Is.stable _, Is.stable _, Is.stable _, trivial⟩ ⟨?s0, ?s1, ?s2, ?s3, ?s4, ?s5, ?s6, ?s7, ?s8, ?s9, ?s10, ?s11, ?s12, trivial⟩ ?fin
  case' s0 | s1 | s2 | s3 | s4 | s5 | s6 | s7 | s8 | s9 | s10 | s11 | s12 =>
    intro ρ wr hρ hg hK
    simp [readsOf, slotsOf, Op.operands, Call.operands, tmpOf, List.filterMap_cons, List.filterMap_nil, KnownAll, knownOf, srcOf, depsOf, dstOf, Region.binds, nth, Is] at hK
    obtain ⟨hc, hf, hgl⟩ := hρ
    try simp only [wantedBy, dstOf, boolOf, nth, List.getD_cons_zero, List.getD_cons_succ, List.getElem?_cons_zero, List.getElem?_cons_succ, Option.bind_some, if_true, hK, BEq.rfl]
    try go_simp
    first | exact rfl | (rw [if_pos (by omega)]; exact is_here rfl) | (rw [dif_pos (by omega)]; exact is_here rfl) | exact congrArg (Value.int _) (IntWalk.i64_in _ ⟨by omega, by omega⟩) | skip
  case s3 | s7 =>
    obtain ⟨_, c1, c2⟩ := lst_heads (HB.out.gr hg)
    go_simp
    exact rfl
  case s9 | s11 =>
    obtain ⟨c1, c2, _⟩ := (Blk.of2a hg).two
    go_simp
    exact rfl
  case fin =>
    intro w1 val hg hH
    simp only [Holds, Is, Nat.zero_add, Nat.reduceAdd] at hH
    obtain ⟨h0, h1, h2, h3, h4, h5, h6, h7, h8, h9, h10, h11, h12, _⟩ := hH
    simp only [List.take_succ_cons, List.take_zero, List.drop_succ_cons, List.drop_zero, putAll, h0, h1, h2, h3, h4, h5, h6, h7, h8, h9, h10, h11, h12, Nat.zero_add, Nat.reduceAdd]
    obtain ⟨c0, c1, c2, c3, f0, f1, f2, f3⟩ := (Blk.of2b hg).four
    go_simp
    go_wp2
    refine bodyPost_ret (v := .agg #[.int .i64 (L.r : Int), .int .i64 (L.gen : Int), .int .i64 (q1 : Int), .int .i64 (q2 : Int)]) (by simp [results, Try.results46, go_sem, c0, c1, c2, c3]) rfl ⟨rfl, ?_⟩
    have hk : w.heap.size ≤ w.heap.size + 1 := by omega
    exact ((((g0.trans hg).setCell hk _).setCell hk _).setCell hk _).setCell hk _
/-- bytes that were loaded -/
def LdB (b : List UInt8) : Value → World → Prop := fun v w => ∃ gb cap, v = .slice (some ⟨gb, 0, none⟩) b.length cap ∧ b.length ≤ cap ∧ cap ≤ maxLen ∧ Bytes w (some ⟨gb, 0, none⟩) b
theorem LdB.stable (b : List UInt8) : Stable Gr (LdB b) := fun _ _ _ ⟨gb, cap, e, h1, h2, h3⟩ k => ⟨gb, cap, e, h1, h2, h3.gr k⟩
def LdT (b : List UInt8) : Value → World → Prop := fun v w => ∃ s, v = .tuple #[s, .int .i64 0] ∧ LdB b s w
theorem LdT.stable (b : List UInt8) : Stable Gr (LdT b) := fun _ _ _ ⟨s, e, h⟩ k => ⟨s, e, LdB.stable b _ _ _ h k⟩
theorem LdB.of {w : World} {base : Nat} {ad : Option Addr} {cap : Nat} {b : List UInt8} (h : Owns w base 5 1 ad cap b.length (bv b)) (h1 : 1 ≤ b.length) : LdB b (.slice ad b.length cap) w := by
  obtain ⟨g, rfl, _, _⟩ := h.at (bv_get b 0 (by omega))
  exact ⟨g, cap, rfl, h.2.1, h.2.2.1, h.bytes⟩
set_option maxRecDepth 100000 in
set_option maxHeartbeats 1000000 in
theorem lload_any (w : World) (S : Nat → Prop) (g gl : Nat) (p : PoolF) (L : Ls) (q : Nat × Nat) (b : List UInt8) (h : Sk w S g gl p L) (he : loadF p ⟨(L.r : Int), (L.gen : Int), (q.1 : Int), (q.2 : Int)⟩ = (b, 0)) (h1 : 1 ≤ b.length) :
    Calls Try.prog 35 #[.pointer (some ⟨gl, 0, none⟩), lnk q] w fun e w' => ∃ v, e = .returned v ∧ Gr w w' ∧ LdT b v w' := by
  obtain ⟨q1, q2⟩ := q
  have HH := Lib.hid (fun w' (hg : Gr w w') => handle_any w' g gl L (q1, q2) (h.gr hg).blk)
  have HL := Lib.hid (fun w' (hg : Gr w w') => Load_any w' S g p ⟨(L.r : Int), (L.gen : Int), (q1 : Int), (q2 : Int)⟩ (h.gr hg).pool h.ok)
  have HE := Lib.hid he
  unfold lnk at HH ⊢
  simp only at HE HH ⊢
  rw [HE.out] at HL
  have HB := Lib.hid (h.gr (Gr.alloc w (.cells #[.int .i64 (q1 : Int), .int .i64 (q2 : Int)] 62))).blk
  have g0 := Gr.alloc w (.cells #[.int .i64 (q1 : Int), .int .i64 (q2 : Int)] 62)
  clear h he
  go_enter Try.func35, Try.ntmps35
  go_wp2
  refine region_any_gr _ [Is ?r0x1, Is ?r1x1, Is ?r2x1, Is (.pointer (some ⟨g, 0, none⟩)), Is ?r4x1, Is (.agg #[.int .i64 (q1 : Int), .int .i64 (q2 : Int)]), Is (.agg #[.int .i64 (L.r : Int), .int .i64 (L.gen : Int), .int .i64 (q1 : Int), .int .i64 (q2 : Int)]), LdT b, LdB b, Is (.int .i64 0), LdB b, Is (.int .i64 0)] (by kernel_rfl) (by kernel_rfl) (by kernel_rfl) rfl rfl ⟨Is.stable _, Is.stable _, Is.stable _, Is.stable _, Is.stable _, Is.stable _, Is.stable _, LdT.stable b, LdB.stable b, Is.stable _, LdB.stable b, Is.stable _, trivial⟩ ⟨?s0x1, ?s1x1, ?s2x1, ?s3x1, ?s4x1, ?s5x1, ?s6x1, ?s7x1, ?s8x1, ?s9x1, ?s10x1, ?s11x1, trivial⟩ ?finx1
  case' s0x1 | s1x1 | s2x1 | s3x1 | s4x1 | s5x1 | s6x1 | s7x1 | s8x1 | s9x1 | s10x1 | s11x1 =>
    intro ρ wr hρ hg hK
    simp [readsOf, slotsOf, Op.operands, Call.operands, tmpOf, List.filterMap_cons, List.filterMap_nil, KnownAll, knownOf, srcOf, depsOf, dstOf, Region.binds, nth, Is] at hK
    obtain ⟨hc, hf, hgl⟩ := hρ
    try simp only [wantedBy, dstOf, boolOf, nth, List.getD_cons_zero, List.getD_cons_succ, List.getElem?_cons_zero, List.getElem?_cons_succ, Option.bind_some, if_true, hK, BEq.rfl]
    try go_simp
    first | exact rfl | (rw [if_pos (by omega)]; exact is_here rfl) | (rw [dif_pos (by omega)]; exact is_here rfl) | exact congrArg (Value.int _) (IntWalk.i64_in _ ⟨by omega, by omega⟩) | skip
  case s3x1 =>
    obtain ⟨c1, _, _⟩ := lst_heads (HB.out.gr hg)
    go_simp
    exact rfl
  case s5x1 =>
    obtain ⟨c1, c2, _⟩ := (Blk.of1 hg).two
    go_simp
    exact rfl
  case s6x1 => exact any_gr (HH.out _ (g0.trans hg))
  case s7x1 =>
    refine (HL.out _ (g0.trans hg)).mono ?_
    rintro e w2 ⟨ad, cap, rfl, ho, hg2⟩
    exact ⟨_, rfl, hg2, _, rfl, LdB.of ho h1⟩
  case s8x1 =>
    obtain ⟨s, e, hs⟩ := hK
    rw [e]
    exact ⟨Gr.refl _, hs⟩
  case s9x1 =>
    obtain ⟨s, e, hs⟩ := hK
    rw [e]
    exact is_here rfl
  case finx1 =>
    intro w1 val hg hH
    simp only [Holds, Is, Nat.zero_add, Nat.reduceAdd] at hH
    obtain ⟨h0, h1, h2, h3, h4, h5, h6, h7, h8, h9, h10, h11, _⟩ := hH
    simp only [List.take_succ_cons, List.take_zero, List.drop_succ_cons, List.drop_zero, putAll, h0, h1, h2, h3, h4, h5, h6, h9, h11, Nat.zero_add, Nat.reduceAdd]
    go_simp
    go_wp2
    go_ret2
    exact ⟨_, rfl, g0.trans hg, _, rfl, h10⟩
set_option maxRecDepth 100000 in
set_option maxHeartbeats 1000000 in
theorem next_none (w : World) (g gl : Nat) (L : Ls) (k : Nat) (hb : Blk w gl 65 (lstV g L)) (hk : k < 12) :
    Calls Try.prog 27 #[.pointer (some ⟨gl, 0, none⟩), lnk (0, 0), .int .i64 (k : Int)] w fun e w' => e = .returned (.tuple #[lnk (L.hd k), .int .i64 0]) ∧ Gr w w' := by
  unfold lnk
  generalize hq : L.hd k = q
  obtain ⟨q1, q2⟩ := q
  obtain ⟨c1, c2⟩ := lst_head ((hb.alloc (.cells #[.int .i64 0, .int .i64 0] 62)).alloc (.cells #[.int .i64 0, .int .i64 0] 62)) hk
  rw [hq] at c1 c2
  simp only at c1 c2 ⊢
  clear hq hb
  go_enter Try.func27, Try.ntmps27
  go_wp2
  refine bodyPost_ret (v := .tuple #[.agg #[.int .i64 (q1 : Int), .int .i64 (q2 : Int)], .int .i64 0]) (by simp [results, Try.results27, go_sem]) rfl ⟨rfl, ?_⟩
  exact (Gr.alloc _ _).trans (Gr.alloc _ _)
set_option maxRecDepth 100000 in
set_option maxHeartbeats 1000000 in
theorem next_some (w : World) (S : Nat → Prop) (g gl : Nat) (p : PoolF) (L : Ls) (q : Nat × Nat) (k t : Nat) (f : Nat → Nat × Nat) (c : Ce) (h : Sk w S g gl p L) (he : loadF p ⟨(L.r : Int), (L.gen : Int), (q.1 : Int), (q.2 : Int)⟩ = (nodeB t f c, 0)) (hq : 1 ≤ q.2) (hk : k < t) (t2 : t ≤ 12)
    (hl : (nodeB t f c).length ≤ 2000) (hf1 : (f k).1 < 4294967296) (hf2 : (f k).2 < 4294967296) :
    Calls Try.prog 27 #[.pointer (some ⟨gl, 0, none⟩), lnk q, .int .i64 (k : Int)] w fun e w' => e = .returned (.tuple #[lnk (f k), .int .i64 0]) ∧ Gr w w' := by
  have hlen := nodeB_len t f c
  obtain ⟨l1, l2⟩ := nodeB_link f c hk
  have HL := Lib.hid (fun w' (hg : Gr w w') => lload_any w' S g gl p L q _ (h.gr hg) he (by omega))
  generalize nodeB t f c = b at *
  have HK := Lib.hid (fun gb cap w' hc hb => link_any gb 0 cap k (f k).1 (f k).2 b w' (by omega) (by omega) hl hc hb l1 l2 hf1 hf2)
  obtain ⟨q1, q2⟩ := q
  generalize f k = y at *
  obtain ⟨y1, y2⟩ := y
  unfold lnk at HL HK ⊢
  simp only at hq HL HK ⊢
  have hqb : ((q2 : Int) == 0) = false := by rw [beq_eq_false_iff_ne]; omega
  have g0 : Gr w ((w.alloc (.cells #[.int .i64 (q1 : Int), .int .i64 (q2 : Int)] 62)).alloc (.cells #[.int .i64 0, .int .i64 0] 62)) := (Gr.alloc _ _).trans (Gr.alloc _ _)
  clear he hf1 hf2 l1 l2 hlen hl h
  go_enter Try.func27, Try.ntmps27
  go_wp2_with (first
    | (go_at_call 35; go_must (refine (HL.out _ g0).mono ?_); rintro e w2 ⟨v, rfl, g2, s, rfl, gb, cap, rfl, hc1, hc2, hb⟩; have HB := Lib.hid hb; clear hb)
    | (go_at_call 42; go_must (refine (HK.out _ _ _ hc1 HB.out).mono ?_); rintro e w3 ⟨rfl, g3⟩; obtain ⟨d0, d1, f0, f1⟩ := ((Blk.of2b g2).gr g3).two)
    | fail)
  refine bodyPost_ret (v := .tuple #[.agg #[.int .i64 (y1 : Int), .int .i64 (y2 : Int)], .int .i64 0]) (by simp [results, Try.results27, go_sem, d0, d1]) rfl ⟨rfl, ?_⟩
  have hz : w.heap.size ≤ w.heap.size + 1 := by omega
  exact (((g0.trans g2).trans g3).setCell hz _).setCell hz _
end Go.Proofs.Ytpaogoehgkoaeaa
/- Layer 11 (skip): is a version there; what may be inserted. -/
namespace Go.Proofs.Ytpaogoehgkoaeaa
set_option linter.unusedVariables false
set_option linter.unusedSimpArgs false
open Go.RowKit Ikey Varint
set_option maxRecDepth 100000 in
set_option maxHeartbeats 1000000 in
theorem there_none (w : World) (gl : Nat) (k : List UInt8) (s d : Int) :
    Calls Try.prog 24 #[.pointer (some ⟨gl, 0, none⟩), lnk (0, 0), ver k s d] w fun e w' => e = .returned (.tuple #[.bool false, .int .i64 0]) ∧ Gr w w' := by
  unfold lnk ver
  go_enter Try.func24, Try.ntmps24
  go_wp2
  go_ret2
  exact ⟨rfl, (Gr.alloc _ _).trans (Gr.alloc _ _)⟩
def isV (c : Ce) (v : Vr) : Bool := decide (c.key = v.key) && decide ((c.seq : Int) = v.seq) && decide ((c.kind : Int) = v.kind)
set_option maxRecDepth 100000 in
set_option maxHeartbeats 1000000 in
theorem there_some (w : World) (S : Nat → Prop) (g gl : Nat) (p : PoolF) (L : Ls) (q : Nat × Nat) (v : Vr) (t : Nat) (f : Nat → Nat × Nat) (c : Ce) (h : Sk w S g gl p L) (he : loadF p ⟨(L.r : Int), (L.gen : Int), (q.1 : Int), (q.2 : Int)⟩ = (nodeB t f c, 0)) (hq : 1 ≤ q.2) 
    (t1 : 1 ≤ t) (t2 : t ≤ 12) (hok : okV c.key c.seq c.kind = true) (hv : c.val.length ≤ 1000) :
    Calls Try.prog 24 #[.pointer (some ⟨gl, 0, none⟩), lnk q, ver v.key v.seq v.kind] w fun e w' => e = .returned (.tuple #[.bool (isV c v), .int .i64 0]) ∧ Gr w w' := by
  obtain ⟨k, s, d⟩ := v
  have HL := Lib.hid (fun w' (hg : Gr w w') => lload_any w' S g gl p L q _ (h.gr hg) he (by rw [nodeB_len]; omega))
  have HC := Lib.hid (fun b cap w' hc hcm hb => cell_any b 0 cap _ t f c w' t1 t2 hok hv rfl hc hcm hb)
  have HI := Lib.hid (show isV c ⟨k, s, d⟩ = (decide (c.key = k) && decide ((c.seq : Int) = s) && decide ((c.kind : Int) = d)) from rfl)
  generalize nodeB t f c = b at *
  obtain ⟨q1, q2⟩ := q
  unfold lnk at HL ⊢
  unfold ceV at HC
  unfold ver
  simp only at hq HL HC ⊢
  have hqb : ((q2 : Int) == 0) = false := by rw [beq_eq_false_iff_ne]; omega
  have g0 : Gr w ((w.alloc (.cells #[.int .i64 (q1 : Int), .int .i64 (q2 : Int)] 62)).alloc (.cells #[.string (str k), .int .i64 s, .int .i64 d] 34)) := (Gr.alloc _ _).trans (Gr.alloc _ _)
  clear he h hok hv t1 t2
  obtain ⟨ck, cs, cd, cv⟩ := c
  simp only at HC HI
  go_enter Try.func24, Try.ntmps24
  go_wp2_with (first
    | (go_at_call 35; go_must (refine (HL.out _ g0).mono ?_); rintro e w2 ⟨v, rfl, g2, s, rfl, gb, cap, rfl, hc1, hc2, hb⟩; have HB := Lib.hid hb; clear hb)
    | (go_at_call 36; go_must (refine (HC.out _ _ _ hc1 hc2 HB.out).mono ?_); rintro e w3 ⟨rfl, g3⟩; obtain ⟨d0, d1, d2, _⟩ := (((Blk.of2b g2).gr g3).alloc (.cells #[.string (str ck), .int .i64 (cs : Int), .int .i64 (cd : Int), .string (str cv)] 36)).three)
    | fail)
  all_goals
    go_ret2
    refine ⟨?_, ((g0.trans g2).trans g3).trans (Gr.alloc _ _)⟩
    rw [HI.out]
    simp [*]
end Go.Proofs.Ytpaogoehgkoaeaa
/- Layer 11 (skip): the walk along the levels. -/
namespace Go.Proofs.Ytpaogoehgkoaeaa
set_option linter.unusedVariables false
set_option linter.unusedSimpArgs false
open Go.RowKit Ikey Varint
/-- behind what a walk stands -/
def Lies (N : List Nd) (o : Option Nd) (b : List Nd) (k : Nat) : Prop := (o = none ∧ b = N) ∨ ∃ a x, o = some x ∧ N = a ++ x :: b ∧ k < x.t
theorem firstN_mem {k : Nat} {b : List Nd} {x : Nd} (h : firstN k b = some x) : x ∈ b := by
  obtain ⟨a, c, rfl, _⟩ := firstN_some h
  simp
theorem linkF_lt {p : PoolF} {r gen : Nat} {hd : Nat → Nat × Nat} {N b : List Nd} (hp : PoolOk p) (h : SkSt p r gen hd N) (hb : ∀ x ∈ b, x ∈ N) (k : Nat) : (linkF (firstN k b)).1 < 4294967296 ∧ (linkF (firstN k b)).2 < 4294967296 := by
  cases hf : firstN k b with
  | none => exact ⟨by decide, by decide⟩
  | some x =>
    have := h.off_lt hp (hb x (firstN_mem hf))
    show x.off < _ ∧ x.size < _
    omega
theorem next_any (w : World) (S : Nat → Prop) (g gl : Nat) (p : PoolF) (L : Ls) (N b : List Nd) (o : Option Nd) (k : Nat) (h : Sk w S g gl p L) (st : SkSt p L.r L.gen L.hd N) (hl : Lies N o b k) (hk : k < 12) :
    Calls Try.prog 27 #[.pointer (some ⟨gl, 0, none⟩), lnk (linkF o), .int .i64 (k : Int)] w fun e w' => e = .returned (.tuple #[lnk (linkF (firstN k b)), .int .i64 0]) ∧ Gr w w' := by
  rcases hl with ⟨rfl, rfl⟩ | ⟨a, x, rfl, hN, hx⟩
  · have := next_none w g gl L k h.blk hk
    rw [st.heads k hk] at this
    exact this
  · have hm : x ∈ N := by rw [hN]; simp
    obtain ⟨n1, n2⟩ := st.node x hm
    have hs := nd_size n1
    have he := st.ld a x b hN
    obtain ⟨l1, l2⟩ := linkF_lt h.ok st (b := b) (fun y hy => by rw [hN]; simp [hy]) k
    exact next_some w S g gl p L (x.off, x.size) k x.t _ x.c h he (by show 1 ≤ x.size; omega) hx n1.t2 (by have h1 := nodeB_len x.t (fun k => linkF (firstN k b)) x.c; have h2 := n1.sz; omega) l1 l2
/-- what is asked of a version by a function value -/
structure Asks (w : World) (K : FuncId) (caps : Array Value) (q : Vr → Bool) : Prop where
  ent : ∀ args w', (callFunc K args).run Try.prog w' = .ok (.enter K args) w'
  ask : ∀ w' u, Gr w w' → Calls Try.prog K (#[ver u.key u.seq u.kind] ++ caps) w' fun e w2 => e = .returned (.bool (q u)) ∧ Gr w' w2
def pathF (A : List Nd) (m : Nat) (k : Nat) : Nat × Nat := if m ≤ k then linkF (lastN k A) else (0, 0)
theorem pathF_all (A : List Nd) : rowV (pathF A 0) 12 = rowV (fun k => linkF (lastN k A)) 12 := rowV_congr 12 fun k _ => by unfold pathF; rw [if_pos (Nat.zero_le _)]
theorem pathF_none (A : List Nd) : rowV (pathF A 12) 12 = rowV (fun _ => (0, 0)) 12 := rowV_congr 12 fun k hk => by unfold pathF; rw [if_neg (by omega)]
theorem pathF_set (A : List Nd) (m : Nat) : upd (pathF A (m + 1)) m (linkF (lastN m A)) = pathF A m := by
  funext k
  unfold upd pathF
  by_cases e : k = m
  · subst e; rw [if_pos rfl, if_pos (Nat.le_refl _)]
  · rw [if_neg e]
    by_cases h : m ≤ k
    · rw [if_pos h, if_pos (by omega)]
    · rw [if_neg h, if_neg (by omega)]
def lkV (q : Nat × Nat) : List Value := [.int .i64 (q.1 : Int), .int .i64 (q.2 : Int)]
theorem ah_store {w W : World} {A : List Nd} {k : Nat} {q : Nat × Nat} (hg : Gr w W) (hb0 : Blk W w.heap.size 63 (rowV (fun _ => (0, 0)) 12)) (hb1 : Blk W (w.heap.size + 1) 63 (rowV (pathF A (k + 1)) 12))
    (hb2 : Blk W (w.heap.size + 1 + 1) 62 (lkV q)) (hk : k < 12) (hl : lastN k A = none ∧ q = (0, 0) ∨ linkF (lastN k A) = q) :
    Gr w ((W.setCell ⟨w.heap.size + 1, k * 2, none⟩ (.int .i64 (q.1 : Int))).setCell ⟨w.heap.size + 1, k * 2 + 1, none⟩ (.int .i64 (q.2 : Int))) ∧
    Blk ((W.setCell ⟨w.heap.size + 1, k * 2, none⟩ (.int .i64 (q.1 : Int))).setCell ⟨w.heap.size + 1, k * 2 + 1, none⟩ (.int .i64 (q.2 : Int))) w.heap.size 63 (rowV (fun _ => (0, 0)) 12) ∧
    Blk ((W.setCell ⟨w.heap.size + 1, k * 2, none⟩ (.int .i64 (q.1 : Int))).setCell ⟨w.heap.size + 1, k * 2 + 1, none⟩ (.int .i64 (q.2 : Int))) (w.heap.size + 1) 63 (rowV (pathF A k) 12) ∧
    Blk ((W.setCell ⟨w.heap.size + 1, k * 2, none⟩ (.int .i64 (q.1 : Int))).setCell ⟨w.heap.size + 1, k * 2 + 1, none⟩ (.int .i64 (q.2 : Int))) (w.heap.size + 1 + 1) 62 (lkV q) := by
  have hl' : linkF (lastN k A) = q := by
    rcases hl with ⟨h1, h2⟩ | h
    · rw [h1, h2]; rfl
    · exact h
  have h1 := (hb1.set_ (k * 2) (.int .i64 (q.1 : Int))).set_ (k * 2 + 1) (.int .i64 (q.2 : Int))
  rw [rowV_set _ q 12 k hk, ← hl', pathF_set] at h1
  rw [hl'] at h1
  refine ⟨(hg.setCell (Nat.le_succ _) _).setCell (Nat.le_succ _) _, (hb0.far (by simp) _).far (by simp) _, h1, (hb2.far (by simp) _).far (by simp) _⟩
set_option maxRecDepth 100000 in
set_option maxHeartbeats 4000000 in
theorem ahead_any (w : World) (S : Nat → Prop) (g gl : Nat) (p : PoolF) (L : Ls) (A B : List Nd) (K : FuncId) (caps : Array Value) (q : Vr → Bool) (h : Sk w S g gl p L) (st : SkSt p L.r L.gen L.hd (A ++ B)) (full : ∀ x ∈ A ++ B, x.h = x.t)
    (hq : Asks w K caps q) (hA : ∀ x ∈ A, q x.c.vr = true) (hB : ∀ x ∈ B, q x.c.vr = false) :
    Calls Try.prog 38 #[.pointer (some ⟨gl, 0, none⟩), .func (.func K) #[] caps] w fun e w' => e = .returned (.tuple #[.agg (rowV (fun k => linkF (lastN k A)) 12).toArray, .int .i64 0]) ∧ Gr w w' := by
  have HS := Lib.hid h
  have HST := Lib.hid st
  have HF := Lib.hid full
  have HQ := Lib.hid hq
  have HA := Lib.hid hA
  have HB := Lib.hid hB
  have b0 := Blk.of3a (w := w) (t := 63) (cs := (rowV (fun _ => (0, 0)) 12).toArray) (o := .cells (rowV (fun _ => (0, 0)) 12).toArray 63) (o' := .cells #[.int .i64 0, .int .i64 0] 62) (Gr.refl _)
  have b1 := Blk.of3b (w := w) (t := 63) (cs := (rowV (fun _ => (0, 0)) 12).toArray) (o := .cells (rowV (fun _ => (0, 0)) 12).toArray 63) (o' := .cells #[.int .i64 0, .int .i64 0] 62) (Gr.refl _)
  have b2 := Blk.of3c (w := w) (t := 62) (cs := #[.int .i64 0, .int .i64 0]) (o := .cells (rowV (fun _ => (0, 0)) 12).toArray 63) (o' := .cells (rowV (fun _ => (0, 0)) 12).toArray 63) (Gr.refl _)
  have g0 : Gr w (((w.alloc (.cells (rowV (fun _ => (0, 0)) 12).toArray 63)).alloc (.cells (rowV (fun _ => (0, 0)) 12).toArray 63)).alloc (.cells #[.int .i64 0, .int .i64 0] 62)) := ((Gr.alloc _ _).trans (Gr.alloc _ _)).trans (Gr.alloc _ _)
  rw [← pathF_none A] at b1
  have HB0 := Lib.hid b0; have HB1 := Lib.hid b1; have HB2 := Lib.hid b2; have G0 := Lib.hid g0
  clear h st full hq hA hB b0 b1 b2 g0
  go_enter Try.func38, Try.ntmps38
  go_wp2
  go_loopw [8] (fun v wr => ∃ (m : Nat) (d r : List Nd), m ≤ 12 ∧ v = .int .i64 ((m : Int) - 1) ∧ A = d ++ r ∧ (∀ x, d.getLast? = some x → m < x.h) ∧ Gr w wr ∧ Blk wr w.heap.size 63 (rowV (fun _ => (0, 0)) 12) ∧
    Blk wr (w.heap.size + 1) 63 (rowV (pathF A m) 12) ∧ Blk wr (w.heap.size + 1 + 1) 62 (lkV (linkF d.getLast?))) (fun v _ => (intOf v + 1).toNat)
  case atStart => exact ⟨12, [], A, Nat.le_refl _, rfl, rfl, fun x hx => by simp at hx, G0.out, HB0.out, HB1.out, HB2.out⟩
  case round =>
    clear HB0 HB1 HB2 G0
    obtain ⟨m0, d, r, hm, rfl, hAdr, hlast, hg, hb0, hb1, hb2⟩ := hrel
    rcases m0 with _ | k
    · rw [pathF_all] at hb1
      clear hAdr hlast hb2 hm
      go_wp2_with (first
        | ((with_reducible show Go.wpList _ _ _ (Oper.mk _ (Op.load 63 _) _ _ _ _ :: _) _ _); go_must (refine wp_load_blk rfl _ _ rfl rfl hb1 Try.underlying63 rfl (n := 24) (by kernel_rfl) (rowV_len _ 12) ?_))
        | ((with_reducible show Go.wpList _ _ _ (Oper.mk _ (Op.store 63 _ _) _ _ _ _ :: _) _ _); go_must (refine wp_store_blk rfl _ _ _ rfl rfl rfl hb0 (n := 24) (by kernel_rfl) (rowV_len _ 12) (rowV_len _ 12) (rowV_one _ 12) ?_))
        | fail)
      refine bodyPost_ret (results_cell_tmp rfl rfl (load_blk (hb0.setRow' _) Try.underlying63 rfl (n := 24) (by kernel_rfl) (rowV_len _ 12))) rfl ⟨rfl, gr_setRow hg (Nat.le_refl _) _⟩
    · have hk : k < 12 := by omega
      have hkI : ((k + 1 : Nat) : Int) - 1 = (k : Int) := by omega
      rw [hkI]
      have HADR := Lib.hid hAdr
      have HLAST := Lib.hid (show ∀ x, d.getLast? = some x → k < x.h from fun x hx => by have := hlast x hx; omega)
      have HG := Lib.hid hg
      have HB0 := Lib.hid hb0; have HB1 := Lib.hid hb1; have HB2 := Lib.hid hb2
      clear hAdr hlast hg hb0 hb1 hb2 hkI hm
      go_wp2
      go_loopg [] r.length (fun n wi => ∃ (d r : List Nd), r.length ≤ n ∧ A = d ++ r ∧ (∀ x, d.getLast? = some x → k < x.h) ∧ Gr w wi ∧ Blk wi w.heap.size 63 (rowV (fun _ => (0, 0)) 12) ∧
        Blk wi (w.heap.size + 1) 63 (rowV (pathF A (k + 1)) 12) ∧ Blk wi (w.heap.size + 1 + 1) 62 (lkV (linkF d.getLast?)))
      case atStart => exact ⟨d, r, Nat.le_refl _, HADR.out, HLAST.out, HG.out, HB0.out, HB1.out, HB2.out⟩
      case round =>
        clear HADR HLAST HG HB0 HB1 HB2
        obtain ⟨d, r, hr, hAdr, hlast, hg, hb0, hb1, hb2⟩ := hrel
        have HLI := Lib.hid (show Lies (A ++ B) d.getLast? (r ++ B) k by
          rcases List.eq_nil_or_concat d with rfl | ⟨d', x, rfl⟩
          · exact .inl ⟨rfl, by rw [hAdr]; simp⟩
          · rw [List.concat_eq_append] at hAdr hlast ⊢
            have hx := hlast x (by simp)
            have hm : x ∈ A ++ B := by rw [hAdr]; simp
            exact .inr ⟨d', x, by simp, by rw [hAdr]; simp, by have := HF.out x hm; omega⟩)
        have HNX := Lib.hid (fun w' (hg' : Gr w w') => next_any w' S g gl p L (A ++ B) (r ++ B) d.getLast? k (HS.out.gr hg') HST.out HLI.out hk)
        obtain ⟨e0, e1, _, _⟩ := hb2.two
        have HADR := Lib.hid hAdr; have HLAST := Lib.hid hlast; have HG := Lib.hid hg; have HR := Lib.hid hr
        have HB0 := Lib.hid hb0; have HB1 := Lib.hid hb1; have HB2 := Lib.hid hb2
        have hsz := hg.size
        have hl2 := hb2.lt
        clear hAdr hlast hg hb0 hb1 hb2 HLI hr
        unfold lnk at HNX
        cases hfn : firstN k (r ++ B) with
        | none =>
          rw [hfn] at HNX
          unfold linkF at HNX
          have HFN := Lib.hid hfn
          clear hfn
          go_wp2_with (first
            | (go_at_call 27; go_must (refine (HNX.out _ HG.out).mono ?_); rintro e w2 ⟨rfl, g2⟩
               have G2 := g2.trans (Gr.alloc w2 (.cells #[.int .i64 0, .int .i64 0] 62))
               obtain ⟨x0, x1, _, _⟩ := (HB2.out.gr G2).two
               have hb1 := HB1.out.gr G2
               have y0 := hb1.cell (rowV_get _ 12 k hk).1
               have y1 := hb1.cell (rowV_get _ 12 k hk).2
               have z0 := hb1.frozen (k * 2)
               have z1 := hb1.frozen (k * 2 + 1)
               have GW := HG.out.trans G2
               have HB1' := Lib.hid hb1
               clear hb1)
            | fail)
          go_roundw
          case rel =>
            have hall : ∀ n ∈ r, n.h ≤ k := fun n hn => firstN_none.1 HFN.out n (List.mem_append_left _ hn)
            refine ⟨k, d, r, by omega, rfl, HADR.out, HLAST.out, ah_store GW (HB0.out.gr G2) HB1'.out (HB2.out.gr G2) hk (.inr ?_)⟩
            rw [HADR.out, lastN_done hall HLAST.out]
          case measure => simp [intOf]
        | some x =>
          obtain ⟨a1, b1, hsp, _, _⟩ := firstN_some hfn
          have hN : A ++ B = (d ++ a1) ++ x :: b1 := by rw [HADR.out, List.append_assoc, hsp, List.append_assoc]
          have hxm : x ∈ A ++ B := by rw [hN]; simp
          obtain ⟨n1, _⟩ := HST.out.node x hxm
          have hs14 := (nd_size n1).1
          have hbl := nodeB_len x.t (fun k => linkF (firstN k b1)) x.c
          have HLD := Lib.hid (fun w' (hg' : Gr w w') => lload_any w' S g gl p L (x.off, x.size) _ (HS.out.gr hg') (HST.out.ld _ x b1 hN) (by omega))
          have HCE := Lib.hid (fun b cap w' hc hcm hb => cell_any b 0 cap _ x.t (fun k => linkF (firstN k b1)) x.c w' n1.t1 n1.t2 n1.ok n1.vl rfl hc hcm hb)
          have HST2 := Lib.hid (step_done (d := d) (fun y => q y.c.vr) (fun n hn => HA.out n (by rw [HADR.out]; simp [hn])) HB.out hfn)
          have hxz : ((x.size : Int) == 0) = false := by rw [beq_eq_false_iff_ne]; omega
          rw [hfn] at HNX
          have hlk : linkF (some x) = (x.off, x.size) := rfl
          rw [hlk] at HNX
          unfold lnk at HLD
          unfold ceV at HCE
          simp only at HLD HCE HNX
          generalize nodeB x.t (fun k => linkF (firstN k b1)) x.c = bb at *
          clear hfn hsp hN hxm n1 hbl hlk
          have HASK := Lib.hid (fun w' (hg' : Gr w w') => HQ.out.ask w' x.c.vr hg')
          unfold ver Ce.vr at HASK
          have hent := HQ.out.ent
          have hb02 : w.heap.size ≤ w.heap.size + 1 + 1 := by omega
          cases hqx : q x.c.vr with
          | true =>
            unfold Ce.vr at hqx
            rw [hqx] at HASK
            obtain ⟨a2, c2, hr2, hk2, hl2', hd2⟩ := HST2.out.1 hqx
            have HQ2 := Lib.hid hr2; have HK2 := Lib.hid hk2; have HL2 := Lib.hid hl2'; have HD2 := Lib.hid hd2
            clear hqx HST2 hr2 hk2 hl2' hd2
            go_wp2_with (first
              | (go_at_call 27; go_must (refine (HNX.out _ HG.out).mono ?_); rintro e w2 ⟨rfl, g2⟩)
              | (go_at_call 35; go_must (refine (HLD.out _ (HG.out.trans (g2.trans (Gr.alloc _ _)))).mono ?_); rintro e w3 ⟨v, rfl, g3, s, rfl, gb, cap, rfl, hc1, hc2, hb⟩; have HBY := Lib.hid hb; clear hb)
              | (go_at_call 36; go_must (refine (HCE.out _ _ _ hc1 hc2 HBY.out).mono ?_); rintro e w4 ⟨rfl, g4⟩)
              | (with_reducible show Calls _ K _ _ _
                 go_must (refine (HASK.out _ (HG.out.trans ((((g2.trans (Gr.alloc _ _)).trans g3).trans g4).trans (Gr.alloc _ _)))).mono ?_); rintro e w5 ⟨rfl, g5⟩
                 have G5 := (((((Gr.alloc w2 (.cells #[.int .i64 (x.off : Int), .int .i64 (x.size : Int)] 62)).trans g3).trans g4).trans (Gr.alloc _ _)).trans g5)
                 have G5w := HG.out.trans (g2.trans G5)
                 obtain ⟨x0, x1, _, _⟩ := (Blk.of1 (g3.trans (g4.trans ((Gr.alloc _ _).trans g5)))).two
                 have hb2 := HB2.out.gr (g2.trans G5)
                 obtain ⟨y0, y1, z0, z1⟩ := hb2.two
                 have HB2' := Lib.hid hb2
                 clear hb2)
              | fail)
            go_roundg c2.length
            case measure => have h1 := HR.out; rw [HQ2.out] at h1; simp at h1; omega
            case rel =>
              have e1 := HL2.out
              refine ⟨d ++ a2 ++ [x], c2, Nat.le_refl _, by rw [HADR.out]; exact HD2.out, fun y hy => ?_, (G5w.setCell hb02 _).setCell hb02 _, ((HB0.out.gr (g2.trans G5)).far (by simp; omega) _).far (by simp; omega) _, ((HB1.out.gr (g2.trans G5)).far (by simp) _).far (by simp) _, ?_⟩
              · rw [e1] at hy; cases hy; exact HK2.out
              · rw [e1]
                have h3 := (HB2'.out.set_ 0 (.int .i64 (x.off : Int))).set_ 1 (.int .i64 (x.size : Int))
                exact h3
          | false =>
            unfold Ce.vr at hqx
            rw [hqx] at HASK
            have hall := HST2.out.2 hqx
            have HALL := Lib.hid hall
            clear hqx HST2 hall
            go_wp2_with (first
              | (go_at_call 27; go_must (refine (HNX.out _ HG.out).mono ?_); rintro e w2 ⟨rfl, g2⟩)
              | (go_at_call 35; go_must (refine (HLD.out _ (HG.out.trans (g2.trans (Gr.alloc _ _)))).mono ?_); rintro e w3 ⟨v, rfl, g3, s, rfl, gb, cap, rfl, hc1, hc2, hb⟩; have HBY := Lib.hid hb; clear hb)
              | (go_at_call 36; go_must (refine (HCE.out _ _ _ hc1 hc2 HBY.out).mono ?_); rintro e w4 ⟨rfl, g4⟩)
              | (with_reducible show Calls _ K _ _ _
                 go_must (refine (HASK.out _ (HG.out.trans ((((g2.trans (Gr.alloc _ _)).trans g3).trans g4).trans (Gr.alloc _ _)))).mono ?_); rintro e w5 ⟨rfl, g5⟩
                 have G5 := (((((Gr.alloc w2 (.cells #[.int .i64 (x.off : Int), .int .i64 (x.size : Int)] 62)).trans g3).trans g4).trans (Gr.alloc _ _)).trans g5)
                 have G5w := HG.out.trans (g2.trans G5)
                 obtain ⟨x0, x1, _, _⟩ := (Blk.of1 (g3.trans (g4.trans ((Gr.alloc _ _).trans g5)))).two
                 have hb2 := HB2.out.gr (g2.trans G5)
                 obtain ⟨y0, y1, z0, z1⟩ := hb2.two
                 have HB2' := Lib.hid hb2
                 clear hb2
                 have hb1 := HB1.out.gr (g2.trans G5)
                 have p0 := hb1.cell (rowV_get _ 12 k hk).1
                 have p1 := hb1.cell (rowV_get _ 12 k hk).2
                 have q0 := hb1.frozen (k * 2)
                 have q1 := hb1.frozen (k * 2 + 1)
                 have HB1' := Lib.hid hb1
                 clear hb1)
              | fail)
            go_roundw
            case rel =>
              refine ⟨k, d, r, by omega, rfl, HADR.out, HLAST.out, ah_store G5w (HB0.out.gr (g2.trans G5)) HB1'.out HB2'.out hk (.inr ?_)⟩
              rw [HADR.out, lastN_done HALL.out HLAST.out]
            case measure => simp [intOf]
end Go.Proofs.Ytpaogoehgkoaeaa
namespace Go.Proofs.Ytpaogoehgkoaeaa
set_option linter.unusedVariables false
set_option linter.unusedSimpArgs false
open Go.RowKit
/-- only blocks of T have changed, and to what T tells -/
structure FinL (T : Nat → Option Obj) (w w' : World) : Prop where
  os : w'.os = w.os
  tape : w'.tape = w.tape
  output : w'.output = w.output
  size : w.heap.size ≤ w'.heap.size
  block : ∀ j, j < w.heap.size → T j = none → w'.heap[j]? = w.heap[j]?
  fin : ∀ j o, T j = some o → w'.heap[j]? = w.heap[j]? ∨ w'.heap[j]? = some o
section
variable {T : Nat → Option Obj} {a b c w w' : World}
theorem FinL.refl (w : World) : FinL T w w := ⟨rfl, rfl, rfl, Nat.le_refl _, fun _ _ _ => rfl, fun _ _ _ => .inl rfl⟩
theorem FinL.trans (h : FinL T a b) (k : FinL T b c) : FinL T a c :=
  ⟨k.os.trans h.os, k.tape.trans h.tape, k.output.trans h.output, Nat.le_trans h.size k.size, fun j hj hT => (k.block j (Nat.lt_of_lt_of_le hj h.size) hT).trans (h.block j hj hT), fun j o hT => by
    rcases k.fin j o hT with k1 | k1
    · rcases h.fin j o hT with h1 | h1
      · exact .inl (k1.trans h1)
      · exact .inr (k1.trans h1)
    · exact .inr k1⟩
theorem FinL.drew (w : World) : FinL T w w.drew := ⟨rfl, rfl, rfl, Nat.le_refl _, fun _ _ _ => rfl, fun _ _ _ => .inl rfl⟩
theorem Gr.fin (h : Gr w w') (hT : ∀ j o, T j = some o → j < w.heap.size) : FinL T w w' := ⟨h.os, h.tape, h.output, h.size, fun j hj _ => h.block j hj, fun j o hj => .inl (h.block j (hT j o hj))⟩
theorem FinL.gr (h : FinL T w w') (k : Gr a w) (hT : ∀ j o, T j = some o → a.heap.size ≤ j) : Gr a w' :=
  ⟨h.os.trans k.os, h.tape.trans k.tape, h.output.trans k.output, Nat.le_trans k.size h.size, fun j hj => (h.block j (Nat.lt_of_lt_of_le hj k.size) (by
    cases ho : T j with
    | none => rfl
    | some o => have := hT j o ho; omega)).trans (k.block j hj)⟩
theorem FinL.blk (h : FinL T w w') {g : Nat} {t : TypeId} {cs : List Value} (hb : Blk w g t cs) (hn : T g = none) : Blk w' g t cs := (h.block g hb.lt hn).trans hb
theorem FinL.cell (h : FinL T w w') {p : Addr} {v : Value} (hp : w.cell? p = some v) (hn : T p.block = none) : w'.cell? p = some v := by
  have := h.block p.block (World.block_lt_of_cell? w p hp) hn
  unfold World.cell? at hp ⊢
  rw [this]; exact hp
theorem FinL.bytes (h : FinL T w w') {ad : Option Addr} {l : List UInt8} (hb : Bytes w ad l) (hn : ∀ x, ad = some x → T x.block = none) : Bytes w' ad l := fun i hi => by
  obtain ⟨b, off, e, hc⟩ := hb i hi
  exact ⟨b, off, e, h.cell hc (hn ⟨b, off, none⟩ e)⟩
/-- a row that has its last contents -/
def Put (T : Nat → Option Obj) (j : Nat) : Value → World → Prop := fun _ w => ∀ o, T j = some o → w.heap[j]? = some o
theorem Put.stable (j : Nat) : Stable (FinL T) (Put T j) := fun _ _ _ h k o ho => by
  rcases k.fin j o ho with h1 | h1
  · exact h1.trans (h o ho)
  · exact h1
theorem Put.blk {j : Nat} {v : Value} {t : TypeId} {cs : List Value} (h : Put T j v w) (hT : T j = some (.cells cs.toArray t (0, 0))) : Blk w j t cs := h _ hT
@[go_sem] theorem fin_refl (w : World) : FinL T w w ↔ True := ⟨fun _ => trivial, fun _ => FinL.refl w⟩
variable {P : Program}
theorem fin_same {f : FuncId} {args : Array Value} {wr : World} {v : Value} (h : Calls P f args wr fun e w' => e = .returned v ∧ wr = w') :
    Calls P f args wr fun e w'' => ∃ u, e = .returned u ∧ FinL T wr w'' ∧ Is v u w'' := h.mono fun e w'' ⟨h1, h2⟩ => ⟨_, h1, h2 ▸ FinL.refl _, rfl⟩
theorem fin_store {W wr : World} (hg : FinL T W wr) {j : Nat} {t ty : TypeId} {cs0 cs : List Value} {n : Nat} (h0 : Blk W j t cs0) (hT : T j = some (.cells cs.toArray t (0, 0))) (hi : (P.info? ty).map (·.size) = some n) (hn : cs0.length = n) (hn' : cs.length = n) (h1 : ∀ v ∈ cs, v.oneCell' = true) :
    ∃ wr', (Instr.storeAt ty (.pointer (some ⟨j, 0, none⟩)) (.agg cs.toArray)).run P wr = .ok () wr' ∧ FinL T wr wr' ∧ ∀ v, Put T j v wr' := by
  have hb : ∃ x, Blk wr j t x ∧ x.length = n := by
    rcases hg.fin j _ hT with h | h
    · exact ⟨cs0, h.trans h0, hn⟩
    · exact ⟨cs, h, hn'⟩
  obtain ⟨x, hx, hl⟩ := hb
  have hr := run_storeVar_row (P := P) wr j t ty x.toArray cs.toArray hx (by rw [hi]; simp [hn']) (by simp [hl, hn']) (all_oneCell_toArray h1)
  have hb2 := hx.setRow' cs
  refine ⟨wr.setRow j cs.toArray, by simp only [Instr.storeAt, Instr.sureAddr, Sem.run_bind, Sem.run_pure, Result.andThen_ok, hr], ⟨rfl, rfl, rfl, by simp, fun k hk hkT => setRow_other wr j k _ (fun e => by rw [e, hT] at hkT; cases hkT), fun k o hk => ?_⟩, fun v o ho => ?_⟩
  · by_cases e : k = j
    · subst e
      rw [hT] at hk
      cases hk
      exact .inr hb2
    · exact .inl (setRow_other wr j k _ e)
  · rw [hT] at ho
    cases ho
    exact hb2
theorem fin_put {W wr : World} (hg : FinL T W wr) {ρ : Operand → Value} {o : Oper} (ty : TypeId) (x y : Operand) (ho : o.op = .store ty x y) {j : Nat} {t : TypeId} {cs0 cs : List Value} {n : Nat} (hx : ρ x = .pointer (some ⟨j, 0, none⟩)) (hy : ρ y = .agg cs.toArray)
    (h0 : Blk W j t cs0) (hT : T j = some (.cells cs.toArray t (0, 0))) (hi : (P.info? ty).map (·.size) = some n) (hn : cs0.length = n) (hn' : cs.length = n) (h1 : ∀ v ∈ cs, v.oneCell' = true) :
    growUpon P (FinL T) wr (Put T j) ((execOp ρ o).run P wr) := by
  obtain ⟨wr', hr, h2, h3⟩ := fin_store (P := P) (ty := ty) hg h0 hT hi hn hn' h1
  unfold execOp
  simp only [ho, hx, hy, Sem.run_bind, hr, Result.andThen_ok, Sem.run_pure]
  exact ⟨h2, h3 _⟩
theorem fin_load {W wr : World} (hg : FinL T W wr) {ρ : Operand → Value} {o : Oper} (ty : TypeId) (x : Operand) (ho : o.op = .load ty x) {j : Nat} {t : TypeId} {cs : List Value} {d : TypeDesc} {n : Nat} (hx : ρ x = .pointer (some ⟨j, 0, none⟩))
    (hb : Blk W j t cs) (hT : T j = none) (hu : P.underlying ty = some d) (hd : d.isRow = true) (hi : (P.info? ty).map (·.size) = some n) (hn : cs.length = n) :
    growUpon P (FinL T) wr (Is (.agg cs.toArray)) ((execOp ρ o).run P wr) := by
  have hr := load_blk (P := P) (ty := ty) (hg.blk hb hT) hu hd hi hn
  unfold execOp
  simp only [ho, hx, Instr.loadAt, Instr.sureAddr, Sem.run_bind, Sem.run_pure, Result.andThen_ok, hr]
  exact ⟨FinL.refl _, rfl⟩
theorem region_fin {id : Nat} {Q : Exit → Act → World → Prop} {a0 : Act} {w : World} {l : List Oper} (T : Nat → Option Obj) (n : Nat) (Rs : List (Value → World → Prop))
    (hm : P.follows .mixedOrders = true) (hB : anyB l n = true) (_ : true = true) (hlen : Rs.length = l.length) (hn : a0.tmps.size = n) (hst : AllStable (FinL T) Rs)
    (hs : AllShown P (FinL T) l Rs a0 w l 0) (hfin : ∀ w1 val, FinL T w w1 → Holds val w1 Rs 0 → Q .normal (putAll val l 0 a0) w1) : (Code.region id l.toArray true).wp P Q a0 w :=
  region_any_store FinL.refl (fun _ _ _ => FinL.trans) FinL.drew n (nth Rs) hm hB hn (fun i v w1 w2 => hst.get i v w1 w2) (fun i o hi => by simpa using hs.get i o hi)
    (fun w1 val hg h => by
      have hex : ∀ i, ∃ v, (i < l.length → nth Rs i v w1) ∧ ∀ o, l[i]? = some o → o.dst.isSome = true → val i = v := by
        intro i
        by_cases hi : i < l.length
        · obtain ⟨v, hv, he⟩ := h i l[i] (by simp [hi])
          exact ⟨v, fun _ => hv, fun o ho hd => by rw [List.getElem?_eq_getElem hi] at ho; cases ho; exact he hd⟩
        · exact ⟨undef, fun h => absurd h hi, fun o ho => by rw [List.getElem?_eq_none (by omega)] at ho; cases ho⟩
      obtain ⟨val2, h2⟩ := Classical.axiomOfChoice hex
      rw [putAll_congr (f := val) (g := val2) l 0 a0 fun i o hi hd => by rw [Nat.zero_add]; exact (h2 i).2 o hi hd]
      exact hfin w1 val2 hg (Holds.of fun i hi => by rw [Nat.zero_add]; exact (h2 i).1 (by omega)))
end
end Go.Proofs.Ytpaogoehgkoaeaa
