/- Layer 11 (skip): cursors. -/
import Derived.Test.YtpaogoehgkoaeaaGreatDoorQBunB0
import Derived.Test.YtpaogoehgkoaeaaGreatDoorQBunB1
import Derived.Test.YtpaogoehgkoaeaaGreatDoorQBunB2
import Derived.Test.YtpaogoehgkoaeaaGreatDoorQBunB3
import Derived.Test.YtpaogoehgkoaeaaGreatDoorQBunB4
import Derived.Test.YtpaogoehgkoaeaaGreatDoorQBunS0
import Derived.Test.YtpaogoehgkoaeaaGreatDoorQBunS1
/- A region that draws its order, with a ghost beside the world: what has been done is told by it. No program is in sight here. -/
namespace Go.Proofs.YtpaogoehgkoaeaaGreatDoor
set_option linter.unusedVariables false
set_option linter.unusedSimpArgs false
open Go.RowKit
section
variable {P : Program} {G : Type}
/-- a value, whatever the state -/
def IsG (x : Value) : Value → World × G → Prop := fun v _ => v = x
/-- a value, in states of a kind -/
def IsS (x : Value) (p : World × G → Prop) : Value → World × G → Prop := fun v s => v = x ∧ p s
def nthG (Rs : List (Value → World × G → Prop)) (i : Nat) : Value → World × G → Prop := Rs.getD i fun _ _ => True
def StableG (Le : World × G → World × G → Prop) (r : Value → World × G → Prop) : Prop := ∀ v s1 s2, r v s1 → Le s1 s2 → r v s2
def AllStableG (Le : World × G → World × G → Prop) : List (Value → World × G → Prop) → Prop
  | [] => True
  | r :: rs => StableG Le r ∧ AllStableG Le rs
theorem AllStableG.get {Le : World × G → World × G → Prop} : ∀ {Rs : List (Value → World × G → Prop)}, AllStableG Le Rs → ∀ i v s1 s2, nthG Rs i v s1 → Le s1 s2 → nthG Rs i v s2
  | [], _, i, v, s1, s2, _, _ => by simp [nthG]
  | r :: rs, h, 0, v, s1, s2, hr, hl => h.1 v s1 s2 hr hl
  | r :: rs, h, i + 1, v, s1, s2, hr, hl => by
    have := AllStableG.get h.2 i v s1 s2 (by simpa [nthG] using hr) hl
    simpa [nthG] using this
theorem IsG.stable {Le : World × G → World × G → Prop} (x : Value) : StableG Le (IsG x) := fun _ _ _ h _ => h
def HoldsG (val : Nat → Value) (s : World × G) : List (Value → World × G → Prop) → Nat → Prop
  | [], _ => True
  | r :: rs, i => r (val i) s ∧ HoldsG val s rs (i + 1)
theorem HoldsG.of {val : Nat → Value} {s : World × G} : ∀ {Rs : List (Value → World × G → Prop)} {k : Nat}, (∀ i, i < Rs.length → nthG Rs i (val (k + i)) s) → HoldsG val s Rs k
  | [], _, _ => trivial
  | r :: rs, k, h => ⟨by simpa [nthG] using h 0 (by simp), HoldsG.of fun i hi => by
    have := h (i + 1) (by simpa using hi)
    rw [show k + (i + 1) = k + 1 + i by omega] at this
    simpa [nthG] using this⟩
/-- a step, that keeps all phases but its own -/
def LePg (Le : World × G → World × G → Prop) (Pre : Nat → World × G → Prop) (i : Nat) (s s' : World × G) : Prop := Le s s' ∧ ∀ k, k ≠ i → Pre k s → Pre k s'
def growG (P : Program) (LE : World × G → World × G → Prop) (s : World × G) (R : Value → World × G → Prop) : Result Next → Prop
  | .ok (.value v) w' => ∃ g', LE s (w', g') ∧ R v (w', g')
  | .ok .skip w' => ∃ g', LE s (w', g') ∧ R undef (w', g')
  | .ok (.enter f args) w' => Calls P f args w' fun e w'' => ∃ v g', e = .returned v ∧ LE s (w'', g') ∧ R v (w'', g')
  | _ => False
theorem growG_value (LE : World × G → World × G → Prop) (s : World × G) (R : Value → World × G → Prop) (v : Value) (w' : World) (g' : G) (h : LE s (w', g')) (hR : R v (w', g')) : growG P LE s R (.ok (.value v) w') := ⟨g', h, hR⟩
theorem growG_skip {LE : World × G → World × G → Prop} {s : World × G} {R : Value → World × G → Prop} {w' : World} (g' : G) (h : LE s (w', g')) (hR : R undef (w', g')) : growG P LE s R (.ok .skip w') := ⟨g', h, hR⟩
theorem growG_enter {LE : World × G → World × G → Prop} {s : World × G} {R : Value → World × G → Prop} {f : FuncId} {args : Array Value} {w' : World} (h : Calls P f args w' fun e w'' => ∃ v g', e = .returned v ∧ LE s (w'', g') ∧ R v (w'', g')) : growG P LE s R (.ok (.enter f args) w') := h
theorem pureG {Le : World × G → World × G → Prop} {Pre : Nat → World × G → Prop} {i : Nat} {w : World} {g : G} {v x : Value} (hr : ∀ s, Le s s) (h : v = x) : growG P (LePg Le Pre i) (w, g) (IsG x) (.ok (.value v) w) := ⟨g, ⟨hr _, fun _ _ h => h⟩, h⟩
def ShownG (P : Program) (Le : World × G → World × G → Prop) (Pre : Nat → World × G → Prop) (ops : List Oper) (R : Nat → Value → World × G → Prop) (a0 : Act) (s0 : World × G) (i : Nat) (o : Oper) : Prop :=
  ∀ ρ w g, Ev ρ → (Le s0 (w, g) ∧ ∀ k, preB ops k i = true → Pre k (w, g)) → KnownAll ops (fun j v w' => R j v (w', g)) a0 o ρ w (readsOf ops o) →
    if wantedBy ops o ρ then growG P (LePg Le Pre i) (w, g) (R i) ((execOp ρ o).run P w) else R i undef (w, g)
def AllShownG (P : Program) (Le : World × G → World × G → Prop) (Pre : Nat → World × G → Prop) (ops : List Oper) (Rs : List (Value → World × G → Prop)) (a0 : Act) (s0 : World × G) : List Oper → Nat → Prop
  | [], _ => True
  | o :: r, i => ShownG P Le Pre ops (nthG Rs) a0 s0 i o ∧ AllShownG P Le Pre ops Rs a0 s0 r (i + 1)
theorem AllShownG.get {Le : World × G → World × G → Prop} {Pre : Nat → World × G → Prop} {ops : List Oper} {Rs : List (Value → World × G → Prop)} {a0 : Act} {s0 : World × G} : ∀ {l : List Oper} {k : Nat}, AllShownG P Le Pre ops Rs a0 s0 l k → ∀ i o, l[i]? = some o → ShownG P Le Pre ops (nthG Rs) a0 s0 (k + i) o
  | [], _, _, i, o, hi => by simp at hi
  | x :: r, k, h, 0, o, hi => by simp at hi; subst hi; exact h.1
  | x :: r, k, h, i + 1, o, hi => by
    have := h.2.get i o (by simpa using hi)
    rwa [show k + 1 + i = k + (i + 1) by omega] at this
/-- what holds on the way -/
structure OnWayG (Pre : Nat → World × G → Prop) (Le : World × G → World × G → Prop) (ops : List Oper) (R : Nat → Value → World × G → Prop) (a0 : Act) (s0 : World × G) (listed : Array Bool) (a : Act) (w : World) (gh : G) : Prop where
  size : listed.size = ops.length
  le : Le s0 (w, gh)
  defers : a.defers = a0.defers
  tmps : a.tmps.size = a0.tmps.size
  closed : ∀ j o, ops[j]? = some o → listed.getD j false = true → ∀ d ∈ depsOf o, listed.getD d false = true
  known : ∀ j o, ops[j]? = some o → listed.getD j false = true → ∃ v, R j v (w, gh) ∧ ∀ d, o.dst = some d → a.tmps.getD d undef = v
  pre : ∀ s, listed.getD s false = false → Pre s (w, gh)
  rest : ∀ t, (∀ j o, ops[j]? = some o → listed.getD j false = true → o.dst ≠ some t) → a.tmps.getD t undef = a0.tmps.getD t undef

theorem region_any_ghost {Pre : Nat → World × G → Prop} {Le : World × G → World × G → Prop} (hrefl : ∀ s, Le s s) (htrans : ∀ a b c, Le a b → Le b c → Le a c) {id : Nat} {Q : Exit → Act → World → Prop} {a0 : Act} {w : World} (g0 : G) {l : List Oper} (n : Nat) (R : Nat → Value → World × G → Prop)
    (hm : P.follows .mixedOrders = true) (hB : anyB l n = true) (hn : a0.tmps.size = n) (hst : ∀ i v w1 w2, R i v w1 → Le w1 w2 → R i v w2)
    (hp0 : ∀ s, Pre s (w.drew, g0)) (hs : ∀ i o, l[i]? = some o → ShownG P Le Pre l R a0 (w.drew, g0) i o)
    (hfin : ∀ w1 g1 val, Le (w.drew, g0) (w1, g1) → (∀ i o, l[i]? = some o → ∃ v, R i v (w1, g1) ∧ (o.dst.isSome = true → val i = v)) → Q .normal (putAll val l 0 a0) w1) : (Code.region id l.toArray true).wp P Q a0 w := by
  have hsize : l.toArray.size = l.length := by simp
  have allL : ∀ (listed : Array Bool), listed.size = l.length → Region.ready .any l.toArray listed = [] → ∀ k, k < l.length → listed.getD k false = true := by
    intro listed hls hr k
    induction k using Nat.strongRecOn with
    | _ k ih =>
      intro hk
      cases hc : listed.getD k false with
      | true => rfl
      | false =>
        exfalso
        have hok := opOk_of hB (i := k) (o := l[k]) (by simp [hk])
        have hmem : k ∈ Region.ready .any l.toArray listed := by
          rw [mem_ready]
          refine ⟨?_, l[k], by simp [hk], fun e he hb => ?_⟩
          · have : k < listed.size := by omega
            simp [this] at hc ⊢; exact hc
          · have hd : e.on ∈ depsOf l[k] := by
              unfold depsOf
              rw [List.mem_filterMap]
              exact ⟨e, by simpa using he, by rw [hb]; rfl⟩
            simp only [opOk, Bool.and_eq_true, List.all_eq_true, decide_eq_true_eq] at hok
            have hlt := hok.1.1.2 _ hd
            exact ih _ hlt (by omega)
        rw [hr] at hmem
        cases hmem
  have fin : ∀ (listed : Array Bool) (a : Act) (w1 : World) (g1 : G), OnWayG Pre Le l R a0 (w.drew, g0) listed a w1 g1 → (∀ k, k < l.length → listed.getD k false = true) → Q .normal a w1 := by
    intro listed a w1 g1 inv hall
    have hval := hfin w1 g1 (fun j => match dstOf l j with | some d => a.tmps.getD d undef | none => undef) inv.le (fun i o hi => by
      obtain ⟨v, hv, he⟩ := inv.known i o hi (hall i (List.getElem?_eq_some_iff.1 hi).1)
      refine ⟨v, hv, fun hd => ?_⟩
      obtain ⟨d, hd⟩ := Option.isSome_iff_exists.1 hd
      have : dstOf l i = some d := by simp [dstOf, hi, hd]
      simp only [this]
      exact he d hd)
    have e : a = putAll (fun j => match dstOf l j with | some d => a.tmps.getD d undef | none => undef) l 0 a0 := by
      refine act_ext (by rw [putAll_size, inv.tmps]) (by rw [putAll_defers, inv.defers]) fun t => ?_
      by_cases ht : ∃ (j : Nat) (o : Oper), l[j]? = some o ∧ o.dst = some t
      · obtain ⟨j, o, hj, hd⟩ := ht
        have hok := opOk_of hB hj
        have htn : t < n := by
          simp only [opOk, hd, Bool.and_eq_true, decide_eq_true_eq] at hok
          exact hok.1.1.1.2.1
        rw [putAll_at _ t l 0 a0 j o hj hd (by rw [hn]; exact htn) (fun j' o' hj' hne hd' => by
          have hok' := opOk_of hB hj'
          simp only [opOk, Bool.and_eq_true, List.all_eq_true] at hok'
          have h2 := hok'.2 j (List.mem_range.2 (List.getElem?_eq_some_iff.1 hj).1)
          have hdj : dstOf l j = some t := by simp [dstOf, hj, hd]
          simp [hdj, hd', Ne.symm hne] at h2)]
        have hdj : dstOf l (0 + j) = some t := by simp [dstOf, hj, hd]
        simp only [hdj]
      · rw [putAll_other _ t l 0 a0 (fun o ho hd => ht (by
          obtain ⟨j, hj, e⟩ := List.getElem_of_mem ho
          exact ⟨j, o, by simp [hj, e], hd⟩))]
        exact inv.rest t (fun j o hj _ hd => ht ⟨j, o, hj, hd⟩)
    rw [e]; exact hval
  have key : ∀ (fuel : Nat) (listed : Array Bool) (a : Act) (w1 : World) (g1 : G), OnWayG Pre Le l R a0 (w.drew, g0) listed a w1 g1 → cnt (fun k => listed.getD k false) l.length ≤ fuel → wpAny P .any l.toArray Q fuel listed a w1 := by
    intro fuel
    induction fuel with
    | zero =>
      intro listed a w1 g1 inv hc
      have hall := cnt_zero (by omega : cnt (fun k => listed.getD k false) l.length = 0)
      refine ⟨?_, fin listed a w1 g1 inv hall⟩
      rw [List.eq_nil_iff_forall_not_mem]
      intro j hj
      obtain ⟨h1, o, ho, _⟩ := mem_ready.1 hj
      have hlt : j < l.length := by
        have := (Array.getElem?_eq_some_iff.1 ho).1
        simpa using this
      have h2 := hall j hlt
      have : j < listed.size := by rw [inv.size]; exact hlt
      simp [this] at h1 h2
      rw [h1] at h2; cases h2
    | succ fuel ih =>
      intro listed a w1 g1 inv hc
      refine ⟨fun hr => fin listed a w1 g1 inv (allL listed inv.size hr), fun i hi => ?_⟩
      obtain ⟨h1, o, ho, hdeps⟩ := mem_ready.1 hi
      have hio : l[i]? = some o := by simpa using ho
      have hlt : i < l.length := (List.getElem?_eq_some_iff.1 hio).1
      have hls : i < listed.size := by rw [inv.size]; exact hlt
      have hun : listed.getD i false = false := by simp [hls] at h1 ⊢; exact h1
      have hok := opOk_of hB hio
      have hdl : ∀ d ∈ depsOf o, listed.getD d false = true := by
        intro d hd
        unfold depsOf at hd
        obtain ⟨e, he, hb⟩ := List.mem_filterMap.1 hd
        split at hb
        · rename_i hbb
          cases hb
          exact hdeps e (by simpa using he) hbb
        · cases hb
      have hcnt : cnt (fun k => (listed.setIfInBounds i true).getD k false) l.length ≤ fuel := by
        have := cnt_set (f := fun k => listed.getD k false) (g := fun k => (listed.setIfInBounds i true).getD k false) (i := i) (n := l.length) hlt hun (fun k => by
          by_cases hk : i = k
          · subst hk; simp [hls]
          · have hk' : (k == i) = false := by simp; omega
            simp only [getD_set_ne false hk, hk', Bool.or_false])
        omega
      have hkn : ∀ t ∈ readsOf l o, knownOf l (fun j v w' => R j v (w', g1)) a0 o t (a.eval (.tmp t)) w1 := by
        intro t ht
        show knownOf l (fun j v w' => R j v (w', g1)) a0 o t (a.tmps.getD t undef) w1
        unfold knownOf
        cases hsrc : srcOf l o t with
        | some j =>
          have hj := List.mem_of_find?_eq_some hsrc
          have hjt := List.find?_some hsrc
          have hjd : dstOf l j = some t := by simpa using hjt
          unfold dstOf at hjd
          cases hlj : l[j]? with
          | none => simp [hlj] at hjd
          | some oj =>
            simp [hlj] at hjd
            obtain ⟨v, hv, he⟩ := inv.known j oj hlj (hdl j hj)
            show R j (a.tmps.getD t undef) (w1, g1)
            rw [he t hjd]; exact hv
        | none =>
          refine inv.rest t (fun j oj hlj hll hd => ?_)
          have hdj : dstOf l j = some t := by simp [dstOf, hlj, hd]
          have hne : j ≠ i := fun e => by subst e; rw [hun] at hll; cases hll
          simp only [opOk, Bool.and_eq_true, List.all_eq_true] at hok
          have h2 := hok.2 j (List.mem_range.2 (List.getElem?_eq_some_iff.1 hlj).1)
          simp only [hdj, hlj] at h2
          have ht' : (readsOf l o).contains t = true := by simpa using ht
          simp [hne, ht] at h2
          rcases h2.2 with h3 | h3
          · have := List.find?_eq_none.1 hsrc j h3
            simp [hdj] at this
          · have := inv.closed j oj hlj hll i h3
            rw [hun] at this; cases this
      have hpre : ∀ s, preB l s i = true → Pre s (w1, g1) := by
        intro s hb
        refine inv.pre s ?_
        cases hc : listed.getD s false with
        | false => rfl
        | true =>
          exfalso
          simp only [preB, Bool.or_eq_true, beq_iff_eq] at hb
          rcases hb with rfl | hb
          · rw [hun] at hc; cases hc
          · cases hos : l[s]? with
            | none => rw [hos] at hb; cases hb
            | some os =>
              rw [hos] at hb
              have := inv.closed s os hos hc i (by simpa using hb)
              rw [hun] at this; cases this
      have hsh := hs i o hio a.eval w1 g1 ⟨fun _ => rfl, fun _ => rfl, fun _ => rfl⟩ ⟨inv.le, hpre⟩ (KnownAll.of hkn)
      have hwant : Region.wanted o (yielded l.toArray a.tmps) = wantedBy l o a.eval := by
        unfold Region.wanted wantedBy
        cases o.guard with
        | none => rfl
        | some g => simp only [yielded_eq]; rfl
      have step : ∀ v w2 g2, LePg Le Pre i (w1, g1) (w2, g2) → R i v (w2, g2) → wpAny P .any l.toArray Q fuel (listed.setIfInBounds i true) (a.put o.dst v) w2 := by
        intro v w2 g2 hle2 hv
        have hle := hle2.1
        refine ih _ _ _ g2 ⟨by simp [inv.size], htrans _ _ _ inv.le hle, by rw [put_defers, inv.defers], by rw [put_size, inv.tmps], ?_, ?_, ?_, ?_⟩ hcnt
        · intro j oj hj hl d hd
          rcases listed_set hl with rfl | hl
          · rw [hio] at hj; cases hj
            exact getD_set_true (hdl d hd)
          · exact getD_set_true (inv.closed j oj hj hl d hd)
        · intro j oj hj hl
          rcases listed_set hl with rfl | hl2
          · rw [hio] at hj; cases hj
            refine ⟨v, hv, fun d hd => ?_⟩
            have hdn : d < n := by
              simp only [opOk, hd, Bool.and_eq_true, decide_eq_true_eq] at hok
              exact hok.1.1.1.2.1
            rw [hd, put_same _ _ _ (by rw [inv.tmps, hn]; exact hdn)]
          · by_cases hji : j = i
            · subst hji; rw [hun] at hl2; cases hl2
            · obtain ⟨v', hv', he'⟩ := inv.known j oj hj hl2
              refine ⟨v', hst j _ _ _ hv' hle, fun d hd => ?_⟩
              rw [put_other _ _ _ _ (fun hd' => by
                simp only [opOk, Bool.and_eq_true, List.all_eq_true] at hok
                have h2 := hok.2 j (List.mem_range.2 (List.getElem?_eq_some_iff.1 hj).1)
                have hdj : dstOf l j = some d := by simp [dstOf, hj, hd]
                simp [hdj, hd', hji] at h2)]
              exact he' d hd
        · intro s hns
          by_cases his : i = s
          · subst his; simp [hls] at hns
          · have hns2 : listed.getD s false = false := by
              rw [getD_set_ne false his] at hns; exact hns
            exact hle2.2 s (fun e => his e.symm) (inv.pre s hns2)
        · intro t ht
          have h1 : o.dst ≠ some t := ht i o hio (by simp [hls])
          rw [put_other _ _ _ _ h1]
          exact inv.rest t (fun j oj hj hl => ht j oj hj (getD_set_true hl))
      unfold wpOp
      simp only [ho, hwant]
      split
      · rename_i hw
        rw [hw] at hsh
        simp only [if_true] at hsh
        left
        unfold Oper.wp
        generalize (execOp a.eval o).run P w1 = r at hsh
        cases r with
        | halt x w' => exact hsh.elim
        | ok nx w' =>
          cases nx with
          | value v => obtain ⟨g2, h2, h3⟩ := hsh; exact step v w' g2 h2 h3
          | skip => obtain ⟨g2, h2, h3⟩ := hsh; exact step undef w' g2 h2 h3
          | enter f args => exact Calls.mono hsh fun e w'' ⟨v, g2, he, hle, hv⟩ => by subst he; exact step v w'' g2 hle hv
          | _ => exact hsh.elim
      · rename_i hw
        simp only [Bool.not_eq_true] at hw
        rw [hw] at hsh
        exact step undef w1 g1 ⟨hrefl _, fun _ _ h => h⟩ (by simpa using hsh)
  refine wp_region_any hm ?_
  refine key l.toArray.size (Array.replicate l.toArray.size false) a0 w.drew g0 ⟨by rw [Array.size_replicate, hsize], hrefl _, rfl, rfl, ?_, ?_, fun s _ => hp0 s, ?_⟩ ?_
  · intro j o _ hl; rw [getD_replicate_false'] at hl; cases hl
  · intro j o _ hl; rw [getD_replicate_false'] at hl; cases hl
  · intro t _; rfl
  · show cnt _ l.length ≤ l.toArray.size
    rw [hsize]; exact cnt_le _ _

theorem region_ghost {Le : World × G → World × G → Prop} (Pre : Nat → World × G → Prop) (hrefl : ∀ s, Le s s) (htrans : ∀ a b c, Le a b → Le b c → Le a c) {id : Nat} {Q : Exit → Act → World → Prop} {a0 : Act} {w : World} (g0 : G) (hp0 : ∀ s, Pre s (w.drew, g0)) {l : List Oper} (n : Nat) (Rs : List (Value → World × G → Prop))
    (hm : P.follows .mixedOrders = true) (hB : anyB l n = true) (_ : true = true) (hlen : Rs.length = l.length) (hn : a0.tmps.size = n) (hst : AllStableG Le Rs)
    (hs : AllShownG P Le Pre l Rs a0 (w.drew, g0) l 0) (hfin : ∀ w1 g1 val, Le (w.drew, g0) (w1, g1) → HoldsG val (w1, g1) Rs 0 → Q .normal (putAll val l 0 a0) w1) : (Code.region id l.toArray true).wp P Q a0 w :=
  region_any_ghost hrefl htrans g0 n (nthG Rs) hm hB hn (fun i v w1 w2 => hst.get i v w1 w2) hp0 (fun i o hi => by simpa using hs.get i o hi)
    (fun w1 g1 val hg h => by
      have hex : ∀ i, ∃ v, (i < l.length → nthG Rs i v (w1, g1)) ∧ ∀ o, l[i]? = some o → o.dst.isSome = true → val i = v := by
        intro i
        by_cases hi : i < l.length
        · obtain ⟨v, hv, he⟩ := h i l[i] (by simp [hi])
          exact ⟨v, fun _ => hv, fun o ho hd => by rw [List.getElem?_eq_getElem hi] at ho; cases ho; exact he hd⟩
        · exact ⟨undef, fun h => absurd h hi, fun o ho => by rw [List.getElem?_eq_none (by omega)] at ho; cases ho⟩
      obtain ⟨val2, h2⟩ := Classical.axiomOfChoice hex
      rw [putAll_congr (f := val) (g := val2) l 0 a0 fun i o hi hd => by rw [Nat.zero_add]; exact (h2 i).2 o hi hd]
      exact hfin w1 g1 val2 hg (HoldsG.of fun i hi => by rw [Nat.zero_add]; exact (h2 i).1 (by omega)))
end
end Go.Proofs.YtpaogoehgkoaeaaGreatDoor
/- Layer 11 (skip): a drawn region in which a piece is allocated. -/
namespace Go.Proofs.YtpaogoehgkoaeaaGreatDoor
set_option linter.unusedVariables false
set_option linter.unusedSimpArgs false
open Go.RowKit
section
variable {w0 W0 w w' : World} {S S' : Nat → Prop} {gp g b : Nat} {p p' : PoolF} {cs : List Value}
def hc (x : Hd) : List Value := [.int .i64 x.region, .int .i64 x.gen, .int .i64 x.off, .int .i64 x.len]
theorem grown_set4b (w : World) (g o : Nat) (a b c d : Value) : w.grownBy ((((w.setCell ⟨g, o, none⟩ a).setCell ⟨g, o + 1, none⟩ b).setCell ⟨g, o + 2, none⟩ c).setCell ⟨g, o + 3, none⟩ d) (some g) :=
  grown_trans (grown_trans (grown_trans (grown_set _ _ _ _) (grown_set _ _ _ _)) (grown_set _ _ _ _)) (grown_set _ _ _ _)
theorem Pl.grown {w0 w w' : World} {S : Nat → Prop} {g : Nat} {p : PoolF} (h : Pl w0 w S g p) {b : Nat} (hO : ¬ S b) (hb : w0.heap.size ≤ b) (k : w.grownBy w' (some b)) : Pl w0 w' S g p :=
  ⟨Gr.of_far h.gr k hb, h.pool.chg (Chg.grown (S := fun j => j = b) k rfl) (fun j hj e => hO (e ▸ hj)), h.ok, h.base⟩
theorem Chg.cell {S : Nat → Prop} {w w' : World} (h : Chg S w w') {b o : Nat} {v : Value} (hc : w.cell? ⟨b, o, none⟩ = some v) (hn : ¬ S b) : w'.cell? ⟨b, o, none⟩ = some v := by
  have := h.block b (World.block_lt_of_cell? w _ hc) hn
  unfold World.cell? at hc ⊢
  simp only at hc ⊢
  rw [this]; exact hc
/-- a pool of a law's own, whatever new blocks it has taken -/
def PlY (w0 : World) (g : Nat) (p : PoolF) (S : Nat → Prop) (N : Nat) (w : World) : Prop := ∃ S', Pl w0 w S' g p ∧ ∀ j, S' j → S j ∨ N ≤ j
theorem PlY.more {w0 w w' : World} {g N : Nat} {p : PoolF} {S : Nat → Prop} (h : PlY w0 g p S N w) (k : Gr w w') : PlY w0 g p S N w' := by
  obtain ⟨S', h1, h2⟩ := h
  exact ⟨S', h1.more k, h2⟩
/-- a block of handles is none of the pool's -/
theorem PoolAt.drop {w : World} {S : Nat → Prop} {g b : Nat} {p : PoolF} {cs : List Value} (h : PoolAt w S g p) (hb : Blk w b 58 cs) : PoolAt w (fun j => S j ∧ j ≠ b) g p := by
  obtain ⟨ads, cs', adt, ct, A, C, bd, hx⟩ := h
  refine ⟨ads, cs', adt, ct, A, C, bd, hx.blk, hx.row, hx.tak, hx.slab, hx.land, hx.inj, hx.sep, ⟨hx.sg, hx.blk.ne hb (by decide)⟩, fun x e => ⟨hx.srow x e, hb.owns_ne hx.row (by decide) x e⟩, fun x e => ⟨hx.stak x e, hb.owns_ne hx.tak (by decide) x e⟩, fun i hi => ⟨hx.sslab i hi, (hx.slab i hi).ne hb (by decide)⟩, fun i x hi e => ⟨hx.sland i x hi e, hb.owns_ne (hx.land i hi) (by decide) x e⟩, fun j hj => hx.lt j hj.1⟩
theorem Pl.drop {w0 w : World} {S : Nat → Prop} {g b : Nat} {p : PoolF} {cs : List Value} (h : Pl w0 w S g p) (hb : Blk w b 58 cs) : Pl w0 w (fun j => S j ∧ j ≠ b) g p := ⟨h.gr, h.pool.drop hb, h.ok, fun j hj => h.base j hj.1⟩
/-- what has been done of a statement that calls Alloc and keeps the handle -/
structure AG where
  done : Bool
  b : Option Nat
  st : Bool
def AG.none : AG := ⟨false, .none, false⟩
def AG.le (g g' : AG) : Prop := (g.done = true → g'.done = true) ∧ (∀ b, g.b = some b → g'.b = some b) ∧ (g.st = true → g'.st = true)
def zh : List Value := [.int .i64 0, .int .i64 0, .int .i64 0, .int .i64 0]
structure AInv (w0 W0 : World) (S : Nat → Prop) (gp : Nat) (p p' : PoolF) (cs : List Value) (s : World × AG) : Prop where
  chg : Chg (fun j => S j ∨ W0.heap.size ≤ j) W0 s.1
  pool : if s.2.done = true then PlY w0 gp p' S W0.heap.size s.1 else Pl w0 s.1 S gp p
  blk : ∀ b, s.2.b = some b → W0.heap.size ≤ b ∧ Blk s.1 b 58 (if s.2.st = true then cs else zh)
  no : s.2.b = none → s.2.st = false
def ALe (w0 W0 : World) (S : Nat → Prop) (gp : Nat) (p p' : PoolF) (cs : List Value) (s s' : World × AG) : Prop := AG.le s.2 s'.2 ∧ (AInv w0 W0 S gp p p' cs s → AInv w0 W0 S gp p p' cs s')
end
section
variable {w0 W0 w w' : World} {S : Nat → Prop} {gp : Nat} {p p' : PoolF} {cs : List Value} {g : AG}
theorem ALe.refl (s : World × AG) : ALe w0 W0 S gp p p' cs s s := ⟨⟨fun h => h, fun _ h => h, fun h => h⟩, fun h => h⟩
theorem ALe.trans (a b c : World × AG) (h : ALe w0 W0 S gp p p' cs a b) (k : ALe w0 W0 S gp p p' cs b c) : ALe w0 W0 S gp p p' cs a c := ⟨⟨fun x => k.1.1 (h.1.1 x), fun b x => k.1.2.1 b (h.1.2.1 b x), fun x => k.1.2.2 (h.1.2.2 x)⟩, fun x => k.2 (h.2 x)⟩
theorem AInv.start (h : Pl w0 W0 S gp p) : AInv w0 W0 S gp p p' cs (W0, AG.none) := ⟨Chg.refl _, h, fun b e => (by cases e), fun _ => rfl⟩
theorem AInv.call (h : AInv w0 W0 S gp p p' cs (w, g)) (hd : g.done = false) {S' : Nat → Prop} (hS : ∀ j, S j → j < W0.heap.size) (m : Moved S gp p' w w' S') (P' : Pl w0 w' S' gp p') : AInv w0 W0 S gp p p' cs (w', { g with done := true }) := by
  refine ⟨h.chg.trans m.chg (fun j hj => .inl (.inl hj)), ?_, fun b e => ?_, h.no⟩
  · show if true = true then _ else _
    rw [if_pos rfl]
    refine ⟨S', P', fun j hj => ?_⟩
    rcases m.sub j hj with h1 | h1
    · exact .inl h1
    · exact .inr (Nat.le_trans h.chg.size h1)
  · obtain ⟨h1, h2⟩ := h.blk b e
    exact ⟨h1, m.chg.blk h2 (fun hs => by have := hS b hs; omega)⟩
theorem AInv.new (h : AInv w0 W0 S gp p p' cs (w, g)) (hb : g.b = .none) : AInv w0 W0 S gp p p' cs (w.alloc (.cells zh.toArray 58), { g with b := some w.heap.size }) := by
  have hst := h.no hb
  refine ⟨h.chg.trans (Gr.alloc w _).chg (fun j hj => .inl hj), ?_, fun b e => ?_, fun e => (by cases e)⟩
  · have := h.pool
    show if g.done = true then _ else _
    split
    · rename_i hd; rw [if_pos hd] at this; exact this.more (Gr.alloc _ _)
    · rename_i hd; rw [if_neg hd] at this; exact this.more (Gr.alloc _ _)
  · cases e
    refine ⟨h.chg.size, ?_⟩
    show Blk _ _ _ (if g.st = true then cs else zh)
    have hst' : g.st = false := hst
    rw [hst', if_neg (by decide)]
    exact Blk.new w _ _
theorem Pl.write (h : Pl w0 w S gp p) {b : Nat} {cs' : List Value} (hB : Blk w b 58 cs') (hb : w0.heap.size ≤ b) (k : w.grownBy w' (some b)) : Pl w0 w' (fun j => S j ∧ j ≠ b) gp p :=
  (h.drop hB).grown (fun e => e.2 rfl) hb k
theorem AInv.store (h : AInv w0 W0 S gp p p' cs (w, g)) (hS : ∀ j, S j → j < W0.heap.size) (hw0 : w0.heap.size ≤ W0.heap.size) {b : Nat} (hb : g.b = some b) (k : w.grownBy w' (some b)) (hB : Blk w' b 58 cs) : AInv w0 W0 S gp p p' cs (w', { g with st := true }) := by
  obtain ⟨h1, h2⟩ := h.blk b hb
  refine ⟨h.chg.trans (Chg.grown (S := fun j => j = b) k rfl) (fun j hj => .inl (.inr (by subst hj; exact h1))), ?_, fun b' e => ?_, fun e => (by rw [hb] at e; cases e)⟩
  · have := h.pool
    show if g.done = true then _ else _
    split
    · rename_i hd
      rw [if_pos hd] at this
      obtain ⟨S', a1, a2⟩ := this
      exact ⟨_, a1.write h2 (Nat.le_trans hw0 h1) k, fun j hj => a2 j hj.1⟩
    · rename_i hd
      rw [if_neg hd] at this
      exact this.grown (fun e => by have := hS b e; omega) (by omega) k
  · have e2 : g.b = some b' := e
    rw [hb] at e2
    cases e2
    exact ⟨h1, hB⟩
end
/-- where a drawn region's Alloc, its handle's room and its store stand -/
def PreI (k : Nat) (s : World × AG) : Prop := (k = 10 → s.2.done = false) ∧ (k = 14 → s.2.b = none) ∧ (k = 15 → s.2.st = false)
theorem PreI.start {w : World} (k : Nat) : PreI k (w, AG.none) := ⟨fun _ => rfl, fun _ => rfl, fun _ => rfl⟩
theorem PreI.step {w w' : World} {g g' : AG} {i : Nat} (h1 : i ≠ 10 → g.done = false → g'.done = false) (h2 : i ≠ 14 → g.b = none → g'.b = none) (h3 : i ≠ 15 → g.st = false → g'.st = false) : ∀ k, k ≠ i → PreI k (w, g) → PreI k (w', g') :=
  fun k hk ⟨a, b, c⟩ => ⟨fun e => h1 (fun e' => hk (e.trans e'.symm)) (a e), fun e => h2 (fun e' => hk (e.trans e'.symm)) (b e), fun e => h3 (fun e' => hk (e.trans e'.symm)) (c e)⟩
def DoneG (x : Value) : Value → World × AG → Prop := fun v s => v = x ∧ s.2.done = true
def HasG : Value → World × AG → Prop := fun v s => ∃ b, v = .pointer (some ⟨b, 0, none⟩) ∧ s.2.b = some b
def StG : Value → World × AG → Prop := fun _ s => s.2.st = true
section
variable {w0 W0 : World} {S : Nat → Prop} {gp : Nat} {p p' : PoolF} {cs : List Value}
theorem DoneG.stable (x : Value) : StableG (ALe w0 W0 S gp p p' cs) (DoneG x) := fun _ _ _ ⟨e, h⟩ k => ⟨e, k.1.1 h⟩
theorem HasG.stable : StableG (ALe w0 W0 S gp p p' cs) HasG := fun _ _ _ ⟨b, e, h⟩ k => ⟨b, e, k.1.2.1 b h⟩
theorem StG.stable : StableG (ALe w0 W0 S gp p p' cs) StG := fun _ _ _ h k => k.1.2.2 h
end
/-- any pool is one of a law's own, of a law that began with nothing -/
theorem Pl.none {w : World} {S : Nat → Prop} {g : Nat} {p : PoolF} (h : PoolAt w S g p) (ok : PoolOk p) : Pl { w with heap := #[] } w S g p :=
  ⟨⟨rfl, rfl, rfl, Nat.zero_le _, fun j hj => absurd hj (Nat.not_lt_zero j)⟩, h, ok, fun j _ => Nat.zero_le _⟩
theorem Chg.mono {S S' : Nat → Prop} {w w' : World} (h : Chg S w w') (hs : ∀ j, S j → S' j) : Chg S' w w' := ⟨h.os, h.tape, h.output, h.size, fun j hj hn => h.block j hj (fun e => hn (hs j e))⟩
/-- what Insert keeps, from its piece on: the path, the cell that is handed over, the piece -/
structure IW (w : World) (S S2 : Nat → Prop) (g gl pb bx hb : Nat) (R : Nat → Nat × Nat) (boxV hV : List Value) (p : PoolF) (L : Ls) (wr : World) : Prop where
  sk : Sk wr S2 g gl p L
  chg : Chg (fun j => S j ∨ j = gl) w wr
  path : Blk wr pb 122 (rowV R 12)
  box : Blk wr bx 56 boxV
  han : Blk wr hb 58 hV
  npath : ¬ S2 pb ∧ pb ≠ gl
  nbox : ¬ S2 bx ∧ bx ≠ gl
  nhan : ¬ S2 hb ∧ hb ≠ gl
  sub : ∀ j, S2 j → S j ∨ w.heap.size ≤ j
section
variable {w wr w' : World} {S S2 : Nat → Prop} {g gl pb bx hb : Nat} {R : Nat → Nat × Nat} {boxV hV : List Value} {p p' : PoolF} {L L' : Ls}
theorem IW.step (h : IW w S S2 g gl pb bx hb R boxV hV p L wr) (sk : Sk w' S2 g gl p' L') (c : Chg (fun j => S2 j ∨ j = gl) wr w') : IW w S S2 g gl pb bx hb R boxV hV p' L' w' :=
  ⟨sk, h.chg.trans c (fun j hj => by
    rcases hj with hj | hj
    · rcases h.sub j hj with h1 | h1
      · exact .inl (.inl h1)
      · exact .inr h1
    · exact .inl (.inr hj)), c.blk h.path (by rintro (e | e); exact h.npath.1 e; exact h.npath.2 e), c.blk h.box (by rintro (e | e); exact h.nbox.1 e; exact h.nbox.2 e), c.blk h.han (by rintro (e | e); exact h.nhan.1 e; exact h.nhan.2 e),
    h.npath, h.nbox, h.nhan, h.sub⟩
theorem IW.gr (h : IW w S S2 g gl pb bx hb R boxV hV p L wr) (k : Gr wr w') : IW w S S2 g gl pb bx hb R boxV hV p L w' := h.step (h.sk.gr k) k.chg
end
theorem lstV_gen (g : Nat) (L : Ls) (n : Nat) : (lstV g L).set 2 (.int .i64 (n : Int)) = lstV g { L with gen := n } := by unfold lstV; simp
theorem lstV_cnt (g : Nat) (L : Ls) (n : Nat) : (lstV g L).set 27 (.int .i64 (n : Int)) = lstV g { L with cnt := n } := by
  unfold lstV
  rw [List.set_append_right _ _ (by simp), List.set_append_right _ _ (by rw [rowV_len]; simp), rowV_len]
  simp
theorem lstV_wt (g : Nat) (L : Ls) (n : Nat) : (lstV g L).set 28 (.int .i64 (n : Int)) = lstV g { L with wt := n } := by
  unfold lstV
  rw [List.set_append_right _ _ (by simp), List.set_append_right _ _ (by rw [rowV_len]; simp), rowV_len]
  simp
theorem Sk.setCell {w : World} {S : Nat → Prop} {g gl : Nat} {p : PoolF} {L L' : Ls} (h : Sk w S g gl p L) (k : Nat) (v : Value) (e : (lstV g L).set k v = lstV g L') : Sk (w.setCell ⟨gl, k, none⟩ v) S g gl p L' ∧ Chg (fun j => j = gl) w (w.setCell ⟨gl, k, none⟩ v) := by
  have hc : Chg (fun j => j = gl) w (w.setCell ⟨gl, k, none⟩ v) := Chg.grown (S := fun j => j = gl) (grown_set w gl k v) rfl
  exact ⟨⟨h.pool.chg hc (fun j hj e => h.out (e ▸ hj)), h.ok, e ▸ h.blk.set_ k v, h.out⟩, hc⟩
end Go.Proofs.YtpaogoehgkoaeaaGreatDoor
/- Layer 11 (skip): Insert. -/
namespace Go.Proofs.YtpaogoehgkoaeaaGreatDoor
set_option linter.unusedVariables false
set_option linter.unusedSimpArgs false
open Go.RowKit Ikey Varint
/-- the head that a new node's bytes begin with, and its first links -/
def partB (t : Nat) (c : Ce) (f : Nat → Nat × Nat) (j : Nat) : List UInt8 := headB t c ++ linksB f j
theorem partB_succ (t : Nat) (c : Ce) (f : Nat → Nat × Nat) (j : Nat) : partB t c f (j + 1) = partB t c f j ++ ptrB (f j) := by unfold partB; rw [linksB, List.append_assoc]
theorem spartB_len (t : Nat) (c : Ce) (f : Nat → Nat × Nat) (j : Nat) : (partB t c f j).length = 5 + 8 * j := by unfold partB; rw [List.length_append, headB_len, linksB_len]
theorem partB_all (t : Nat) (c : Ce) (f : Nat → Nat × Nat) : partB t c f t ++ encF c.key c.seq c.kind ++ c.val = nodeB t f c := by unfold partB nodeB restB; simp
theorem there_head (w : World) (S : Nat → Prop) (g gl : Nat) (p : PoolF) (L : Ls) (A B : List Nd) (v : Vr) (h : Sk w S g gl p L) (st : SkSt p L.r L.gen L.hd (A ++ B)) (hne : ∀ x ∈ B, isV x.c v = false) :
    Calls Tryz.prog 61 #[.pointer (some ⟨gl, 0, none⟩), lnk (linkF (firstN 0 B)), ver v.key v.seq v.kind] w fun e w' => e = .returned (.tuple #[.bool false, .int .i64 0]) ∧ Gr w w' := by
  cases hf : firstN 0 B with
  | none => exact there_none w gl v.key v.seq v.kind
  | some x =>
    obtain ⟨a, b, e, _⟩ := firstN_some hf
    have hm : x ∈ A ++ B := by rw [e]; simp
    obtain ⟨n1, _⟩ := st.node x hm
    have hs := nd_size n1
    have := there_some w S g gl p L (x.off, x.size) v x.t _ x.c h (st.ld (A ++ a) x b (by rw [e]; simp)) (by show 1 ≤ x.size; omega) n1.t1 n1.t2 n1.ok n1.vl
    rw [hne x (by rw [e]; simp)] at this
    exact this
set_option maxRecDepth 100000 in
set_option maxHeartbeats 8000000 in
theorem Insert_ok (w : World) (S : Nat → Prop) (g gl : Nat) (p : PoolF) (L : Ls) (A B : List Nd) (c : Ce) (t : Nat) (h : Sk w S g gl p L) (st : SkSt p L.r L.gen L.hd (A ++ B)) (full : ∀ x ∈ A ++ B, x.h = x.t)
    (hfz : L.fz = false) (hfd : L.fd = false) (t1 : 1 ≤ t) (t2 : t ≤ 12) (hok : okV c.key c.seq c.kind = true) (hv : c.val.length ≤ 1000)
    (hA : ∀ x ∈ A, vless x.c.vr c.vr = true) (hB : ∀ x ∈ B, vless c.vr x.c.vr = true) (hi : 1 ≤ countF p) (hcnt : L.cnt ≤ 1000000) (hwt : L.wt ≤ 1000000000) :
    Calls Tryz.prog 18 #[.pointer (some ⟨gl, 0, none⟩), celV c.key c.seq c.kind c.val, .int .i64 (t : Int)] w fun e w' => e = .returned (.int .i64 0) ∧
      ∃ p' S' hd' o, Sk w' S' g gl p' ⟨L.r, (landAt p L.r).gen, hd', L.cnt + 1, L.wt + (c.key.length + c.val.length + 8), false, false⟩ ∧
        SkSt p' L.r (landAt p L.r).gen hd' (A ++ ⟨o, 5 + 8 * t + (c.key.length + 8 + c.val.length), t, t, c⟩ :: B) ∧ Kp L.r p p' ∧ countF p ≤ countF p' + 1 ∧ Chg (fun j => S j ∨ j = gl) w w' ∧ ∀ j, S' j → S j ∨ w.heap.size ≤ j := by
  have hck : chkI L.fz L.fd c.key c.seq c.kind c.val (t : Int) = 0 := by
    unfold chkI
    rw [hfz, hfd, if_neg (by simp), if_neg (by rw [hok]; simp; omega), if_neg (by omega)]
  have hne : ∀ x ∈ B, isV x.c c.vr = false := fun x hx => by
    have h1 := hB x hx
    unfold isV
    rw [Bool.eq_false_iff]
    intro e
    simp only [Bool.and_eq_true, decide_eq_true_eq] at e
    have : x.c.vr = c.vr := by unfold Ce.vr at e ⊢; simp only at e; obtain ⟨⟨e1, e2⟩, e3⟩ := e; rw [e1, e2, e3]
    rw [this, vless_irr] at h1
    cases h1
  have HS := Lib.hid h
  have HCK := Lib.hid (fun w' (hg : Gr w w') => scheck_any w' g gl L (h.gr hg).blk c.key c.seq c.kind c.val (t : Int) (by omega))
  rw [hck] at HCK
  have HBE := Lib.hid (fun w' (hg : Gr w w') => behind_any w' S g gl p L A B c.vr (h.gr hg) st full hA (fun x hx => vless_asymm (hB x hx)))
  have HTH := Lib.hid (fun w' (hg : Gr w w') => there_head w' S g gl p L A B c.vr (h.gr hg) st hne)
  have HEN := Lib.hid (fun w' => Encode_yes c.key c.seq c.kind w' hok)
  obtain ⟨R, hR⟩ : ∃ R : Nat → Nat × Nat, R = fun k => linkF (lastN k A) := ⟨_, rfl⟩
  obtain ⟨f, hf⟩ : ∃ f : Nat → Nat × Nat, f = fun k => linkF (firstN k B) := ⟨_, rfl⟩
  obtain ⟨o, p1, p2, hal, hsto, st2, kp2, cf2⟩ := st.alloc h.ok hi t1 t2 hok hv hA hB
  rw [← hf] at hal hsto st2
  have hok2 : PoolOk p2 := by
    have h1 : PoolOk p1 := by have := alloc_ok h.ok (L.r : Int) ((nodeB t f c).length : Nat) 8; rw [hal] at this; exact this
    have := store_ok h1 (nh L.r (landAt p L.r).gen ⟨o, (nodeB t f c).length, 0, t, c⟩) 0 (nodeB t f c)
    rw [hsto] at this
    exact this
  have hok1 : PoolOk p1 := by have := alloc_ok h.ok (L.r : Int) ((nodeB t f c).length : Nat) 8; rw [hal] at this; exact this
  rw [← hR] at HBE
  have hf0 : linkF (firstN 0 B) = f 0 := by rw [hf]
  rw [hf0] at HBE HTH
  have HNX := Lib.hid (fun w' (hg : Gr w w') k (hk : k < 12) => show Calls Tryz.prog 64 #[.pointer (some ⟨gl, 0, none⟩), lnk (R k), .int .i64 (k : Int)] w' fun e w2 => e = .returned (.tuple #[lnk (f k), .int .i64 0]) ∧ Gr w' w2 by
    obtain ⟨b, h1, h2⟩ := lies_path full k
    have := next_any w' S g gl p L (A ++ B) b (lastN k A) k (h.gr hg) st h1 hk
    rw [h2] at this
    rw [hR, hf]
    exact this)
  have HFL := Lib.hid (show ∀ k, (f k).1 < 4294967296 ∧ (f k).2 < 4294967296 from fun k => by rw [hf]; exact linkF_lt h.ok st (fun y hy => List.mem_append_right _ hy) k)
  have HR := Lib.hid hR; have HF := Lib.hid hf; have HST := Lib.hid st; have HFU := Lib.hid full; have HA := Lib.hid hA; have HB := Lib.hid hB; have HOK := Lib.hid hok
  have HHB := Lib.hid (show headB t c = UInt8.ofNat t :: (bytesN 2 (c.key.length + 8) ++ bytesN 2 c.val.length) from rfl)
  have HPA := Lib.hid (partB_all t c f)
  have HP0 := Lib.hid (show partB t c f 0 = headB t c by unfold partB; simp [linksB])
  have HPS := Lib.hid (partB_succ t c f)
  have HPL := Lib.hid (spartB_len t c f)
  have HNB := Lib.hid (nodeB_len t f c)
  have HEL := Lib.hid (enc_len c.key c.seq c.kind)
  obtain ⟨_, hk64, _⟩ := okV_of hok
  have HK := Lib.hid (show c.key.length ≤ 64 from hk64)
  generalize hnode : nodeB t f c = node at *
  have HND := Lib.hid hnode
  obtain ⟨gn, hgn⟩ : ∃ gn, gn = (landAt p L.r).gen := ⟨_, rfl⟩
  have HGN := Lib.hid hgn
  rw [← hgn] at hal hsto st2 ⊢
  clear hgn
  unfold nh at hal hsto
  simp only at hal hsto
  have HAL := Lib.hid hal; have HSTO := Lib.hid hsto; have HST2 := Lib.hid st2; have HKP2 := Lib.hid kp2; have HCF2 := Lib.hid cf2; have HOK2 := Lib.hid hok2; have HOK1 := Lib.hid hok1
  clear hal hsto st2 kp2 cf2 hok2 hok1
  clear hck hne hR hf hf0 st full hA hB hok hk64 hnode h
  unfold Ce.vr at HBE HTH
  unfold ver at HBE HTH HEN
  simp only at HBE HTH HEN
  unfold lnk at HBE HTH HNX
  unfold celV at HCK ⊢
  generalize encF c.key c.seq c.kind = E at *
  generalize partB t c f = PB at *
  generalize headB t c = hd0 at *
  obtain ⟨key, seq, kind, vl⟩ := c
  simp only at *
  have g1 := Gr.alloc w (.cells #[.string (str key), .int .i64 (seq : Int), .int .i64 (kind : Int), .string (str vl)] 56)
  have B1 := Lib.hid (Blk.new w 56 #[.string (str key), .int .i64 (seq : Int), .int .i64 (kind : Int), .string (str vl)])
  have G1 := Lib.hid g1
  clear g1
  go_enter Tryz.func18, Tryz.ntmps18
  go_wp2_with (first
    | (go_at_call 59; go_must (refine (HCK.out _ G1.out).mono ?_); rintro e w2 ⟨rfl, g2⟩
       have G2 := Lib.hid (G1.out.trans g2)
       have B2 := Lib.hid (B1.out.gr g2)
       obtain ⟨c0, c1, c2, c3, _⟩ := B2.out.four)
    | (go_at_call 60; go_must (refine (HBE.out _ G2.out).mono ?_); rintro e w3 ⟨rfl, g3⟩
       clear c0 c1 c2 c3
       have G3 := Lib.hid (G2.out.trans g3)
       have B3 := Lib.hid (B2.out.gr g3)
       have P3 := Lib.hid (Blk.of2a (w := w3) (cs := (rowV (fun _ => (0, 0)) 12).toArray) (t := 122) (o := .cells #[.int .i64 0, .int .i64 0] 121) (Gr.refl _))
       have N3 := Lib.hid (Blk.of2b (w := w3) (o := .cells (rowV (fun _ => (0, 0)) 12).toArray 122) (cs := #[.int .i64 0, .int .i64 0]) (t := 121) (Gr.refl _)))
    | ((with_reducible show Go.wpList _ _ _ (Oper.mk _ (Op.store 122 _ _) _ _ _ _ :: _) _ _); go_must (refine wp_store_row rfl _ _ _ rfl rfl (cs' := rowV R 12) rfl P3.out (n := 24) (by kernel_rfl) (rowV_len _ 12) (rowV_len _ 12) (rowV_one _ 12) ?_); intro w4 P4 k4
       have hw3 := G3.out.size
       have hbx := B3.out.lt
       have G4 := Lib.hid ((G3.out.trans ((Gr.alloc w3 (.cells (rowV (fun _ => (0, 0)) 12).toArray 122)).trans (Gr.alloc _ (.cells #[.int .i64 0, .int .i64 0] 121)))).grown k4 (fun k e => by cases e; exact hw3))
       have N4 := Lib.hid (N3.out.grown k4 (by simp))
       have B4 := Lib.hid (((B3.out.alloc (.cells (rowV (fun _ => (0, 0)) 12).toArray 122)).alloc (.cells #[.int .i64 0, .int .i64 0] 121)).grown k4 (by simp; omega))
       have HP4 := Lib.hid P4
       clear k4 P4)
    | ((with_reducible show Go.wpList _ _ _ (Oper.mk _ (Op.store 121 _ _) _ _ _ _ :: _) _ _); go_must (refine wp_store_row rfl _ _ _ rfl rfl (cs' := [.int .i64 ((f 0).1 : Int), .int .i64 ((f 0).2 : Int)]) rfl N4.out (n := 2) (by kernel_rfl) rfl rfl (fun v hv => by simp at hv; rcases hv with rfl | rfl <;> rfl) ?_); intro w5 N5 k5
       have G5 := Lib.hid (G4.out.grown k5 (fun k e => by cases e; omega))
       have P5 := Lib.hid (HP4.out.grown k5 (by simp))
       have B5 := Lib.hid (B4.out.grown k5 (by simp; omega))
       obtain ⟨n0, n1, _, _⟩ := N5.two4
       obtain ⟨c0, c1, c2, c3, _⟩ := B5.out.four
       clear k5 N5)
    | (go_at_call 61; go_must (refine (HTH.out _ G5.out).mono ?_); rintro e w6 ⟨rfl, g6⟩
       clear c0 c1 c2 c3 n0 n1
       have G6 := Lib.hid (G5.out.trans g6)
       have P6 := Lib.hid (P5.out.gr g6)
       have B6 := Lib.hid (B5.out.gr g6)
       obtain ⟨c0, c1, c2, c3, _⟩ := B6.out.four)
    | (go_at_call 62; go_must (refine (HEN.out _).mono ?_); rintro e w7 ⟨ade, cape, rfl, oe, g7⟩
       clear c0 c1 c2 c3
       have G7 := Lib.hid (G6.out.trans g7)
       have P7 := Lib.hid (P6.out.gr g7)
       have B7 := Lib.hid (B6.out.gr g7)
       obtain ⟨c0, c1, c2, c3, _⟩ := (B7.out.alloc (.cells #[.int .u8 (t : Int)] 5)).four)
    | fail)
  clear c0 c1 c2 c3
  have i0 : ∀ (a b : Value) w, (Instr.index 134 (.agg #[a, b]) (.int .i64 0)).run Tryz.prog w = .ok a w := fun _ _ _ => by kernel_rfl
  have i1 : ∀ (a b : Value) w, (Instr.index 134 (.agg #[a, b]) (.int .i64 1)).run Tryz.prog w = .ok b w := fun _ _ _ => by kernel_rfl
  have hE72 : E.length ≤ 72 := by have := HEL.out; have := HK.out; omega
  have HF1 := Lib.hid (fun w' => Fixed_at (E.length : Int) E.length 2 2 w' rfl rfl (by decide) (show E.length < 256 ^ 2 by omega))
  have HF2 := Lib.hid (fun w' => Fixed_at (vl.length : Int) vl.length 2 2 w' rfl rfl (by decide) (show vl.length < 256 ^ 2 by omega))
  have HX := Lib.hid (bytesN_len 2 E.length)
  have HY := Lib.hid (bytesN_len 2 vl.length)
  have hhd : hd0 = [UInt8.ofNat t] ++ bytesN 2 E.length ++ bytesN 2 vl.length := by rw [HHB.out, HEL.out]; simp
  generalize bytesN 2 E.length = X at *
  generalize bytesN 2 vl.length = Y at *
  have HHD := Lib.hid hhd
  clear hhd
  have ob : Owns (w7.alloc (.cells #[.int .u8 (t : Int)] 5)) w7.heap.size 5 1 (some ⟨w7.heap.size, 0, none⟩) 1 1 (bv [UInt8.ofNat t]) :=
    Owns.made w7 w7.heap.size #[.int .u8 (t : Int)] 5 (0, 0) 1 1 1 _ (Nat.le_refl _) (by decide) (Nat.le_refl _) rfl (by simp) (by
      simp only [bv, List.map_cons, List.map_nil, UInt8.toNat_ofNat']
      rw [Nat.mod_eq_of_lt (by omega)]; rfl)
  have g8 := Gr.alloc w7 (.cells #[.int .u8 (t : Int)] 5)
  have h78 := g8.size
  refine wp_loop_rounds 3 ?_
  rw [rounds_succ]
  go_wp2_with (first
    | (go_at_call 63; go_must (refine (HF1.out _).mono ?_); rintro e w9 ⟨ad9, c9, rfl, o9, g9⟩; have ob9 := ob.gr g9; have G9 := g8.trans g9)
    | (at_builtin; refine wp_append elemB rfl _ _ rfl rfl ob9 rfl (Src.bytes o9.bytes rfl Tryz.underlying31) (by unfold maxLen; have := HX.out; omega) (by have := HX.out; omega) G9.size ?_; intro adb cb w10 o10 k10 f10; have G10 := G9.onto ob9 (Nat.le_refl _) k10; rw [← bv_append] at o10)
    | fail)
  rw [rounds_succ]
  go_wp2_with (first
    | (go_at_call 63; go_must (refine (HF2.out _).mono ?_); rintro e w11 ⟨ad11, c11, rfl, o11, g11⟩; have ob11 := o10.gr g11; have G11 := G10.trans g11)
    | (at_builtin; refine wp_append elemB rfl _ _ rfl rfl ob11 rfl (Src.bytes o11.bytes rfl Tryz.underlying31) (by unfold maxLen; have := HX.out; have := HY.out; omega) (by have := HX.out; have := HY.out; omega) G11.size ?_; intro adc cc w12 o12 k12 f12; have G12 := G11.onto ob11 (Nat.le_refl _) k12; rw [← bv_append] at o12)
    | fail)
  rw [rounds_succ]
  go_wp2
  have o12' : Owns w12 w7.heap.size 5 1 adc cc (5 + 8 * 0) (bv (PB 0)) := by
    rw [HP0.out, HHD.out]
    have := o12
    rw [HX.out, HY.out] at this
    exact this
  have HO12 := Lib.hid o12'
  have hXY : 1 + X.length + Y.length = 5 + 8 * 0 := by rw [HX.out, HY.out]
  have HG12 := Lib.hid G12
  rw [hXY]
  clear o12' o12 hXY G12 k12 f12 G11 ob11 g11 o11 f10 k10 o10 G10 G9 ob9 g9 o9 ob g8 h78 i0 i1 HHD HX HY HF1 HF2
  go_loopw [15, 88] (fun v i wr => ∃ (j : Nat) (ad : Option Addr) (cap : Nat), j ≤ t ∧ i = .int .i64 (j : Int) ∧ v = .slice ad (5 + 8 * j) cap ∧ Owns wr w7.heap.size 5 1 ad cap (5 + 8 * j) (bv (PB j)) ∧ Gr w7 wr) (fun _ i _ => t - (intOf i).toNat)
  case atStart => exact ⟨0, _, _, Nat.zero_le _, rfl, rfl, HO12.out, HG12.out⟩
  case round =>
    clear HO12 HG12
    obtain ⟨j, ad, cap, hj, rfl, rfl, oj, hg⟩ := hrel
    by_cases hjt : j < t
    · have hj12 : j < 12 := by omega
      have GJ := Lib.hid (G7.out.trans hg)
      have hbp := P7.out.gr hg
      obtain ⟨r0, r1⟩ := rowV_get R 12 j hj12
      have c0 := hbp.cell r0
      have c1 := hbp.cell r1
      have HNJ := Lib.hid (fun w' (hg' : Gr w w') => HNX.out w' hg' j hj12)
      have HPJ := Lib.hid (fun w' => pointer_any w' (f j) (HFL.out j).1 (HFL.out j).2)
      have HPL8 := Lib.hid (ptrB_len (f j))
      have hps := HPS.out j
      generalize ptrB (f j) = pj at *
      have HPSJ := Lib.hid hps
      unfold lnk at HPJ
      have OJ := Lib.hid oj
      have HG := Lib.hid hg
      clear hbp r0 r1 hps oj hg
      go_wp2_with (first
        | (go_at_call 64; go_must (refine (HNJ.out _ GJ.out).mono ?_); rintro e w13 ⟨rfl, g13⟩)
        | (go_at_call 65; go_must (refine (HPJ.out _).mono ?_); rintro e w14 ⟨ad14, c14, rfl, o14, g14⟩
           have gj := g13.trans ((Gr.alloc w13 (.cells #[.int .i64 ((f j).1 : Int), .int .i64 ((f j).2 : Int)] 121)).trans g14)
           have oj14 := OJ.out.gr gj
           have G14 := HG.out.trans gj)
        | (at_builtin; refine wp_append elemB rfl _ _ rfl rfl oj14 rfl (Src.bytes o14.bytes rfl Tryz.underlying31) (by unfold maxLen; have := HPL8.out; omega) (by have := HPL8.out; omega) G14.size ?_; intro adc cc w15 o15 k15 f15; have G15 := G14.onto oj14 (Nat.le_refl _) k15; rw [← bv_append] at o15)
        | fail)
      refine ⟨?_, ?measure⟩
      (repeat apply Exists.intro)
      refine ⟨?rel, rfl⟩
      case rel =>
        refine ⟨j + 1, adc, cc, hjt, by go_num, by rw [HPL8.out, show 5 + 8 * j + 8 = 5 + 8 * (j + 1) by omega], ?_, G15⟩
        rw [HPSJ.out]
        rw [HPL8.out] at o15
        exact o15
      case measure => simp [intOf]; omega
    · have hjt2 : j = t := by omega
      rw [hjt2] at oj ⊢
      have GJ := Lib.hid (G7.out.trans hg)
      have BJ := Lib.hid (B7.out.gr hg)
      have PJ := Lib.hid (P7.out.gr hg)
      have oe2 := oe.gr hg
      clear hjt hjt2 hj
      have h67 := g7.size
      have hw6 := G6.out.size
      have hbxw : w.heap.size < w6.heap.size := B6.out.lt
      obtain ⟨row, hrow⟩ : ∃ row, row = ad.map (·.block) := ⟨_, rfl⟩
      have hrlt : ∀ g', row = some g' → g' < wr.heap.size ∧ w7.heap.size ≤ g' := by
        intro g' hg'
        rw [hrow] at hg'
        cases ad with
        | none => cases hg'
        | some y => cases hg'; exact ⟨(oj.lt y rfl).2, (oj.lt y rfl).1⟩
      have hbxrow : some w.heap.size ≠ row := fun h => by have := (hrlt _ h.symm).2; omega
      have herow : ∀ a, ade = some a → some a.block ≠ row := fun a ha h => by
        have h1 := (hrlt _ h.symm).2
        have h2 := (oe.lt a ha).2
        omega
      obtain ⟨AA, hAA⟩ : ∃ AA : Option Obj, ∀ g, row = some g → AA = wr.heap[g]? := ⟨row.bind fun g => wr.heap[g]?, fun g hg' => by rw [hg']; rfl⟩
      obtain ⟨BB, hBB⟩ : ∃ BB : Option Obj, BB = if 5 + 8 * t + E.length ≤ cap then appRow ((5 + 8 * t) * 1) (bv E) AA else AA := ⟨_, rfl⟩
      have HRow := Lib.hid hrow; have HAA := Lib.hid hAA; have HBB := Lib.hid hBB; have HRL := Lib.hid hrlt; have HER := Lib.hid herow
      have mA : 5 + 8 * t + E.length ≤ maxLen := by unfold maxLen; omega
      have mB : (5 + 8 * t + E.length) * 1 ≤ 140737488355328 := by omega
      have hb7 := hg.size
      obtain ⟨_, _, _, x3, _⟩ := BJ.out.four
      have OJ := Lib.hid oj
      have OE := Lib.hid oe2
      have HG := Lib.hid hg
      clear hrow hAA hBB hrlt herow oj oe2 hg
      go_wp2
      refine region_tail_once row AA BB 5 _ [Is (.slice ad (5 + 8 * t) cap), Is (.slice ade E.length cape), Apn row BB w7.heap.size 5 1 (5 + 8 * t + E.length) (bv (PB t) ++ bv E) wr.heap.size, Is (.pointer (some ⟨w.heap.size, 3, none⟩)), Is (.string (str vl))] (by kernel_rfl) (by kernel_rfl) (by kernel_rfl) (by kernel_rfl) rfl rfl ⟨Is.stable _, Is.stable _, Apn.stable _ _ _ _ _ _, Is.stable _, Is.stable _, trivial⟩ ⟨?s0, ?s1, ?s2, ?s3, ?s4, trivial⟩ ?fin
      case' s0 | s1 | s3 | s4 =>
        intro ρ wr hρ hg hK
        simp [readsOf, slotsOf, Op.operands, Call.operands, tmpOf, List.filterMap_cons, List.filterMap_nil, KnownAll, knownOf, srcOf, depsOf, dstOf, Region.binds, nth, Is] at hK
        obtain ⟨hc, hf, hgl⟩ := hρ
        try simp only [wantedBy, dstOf, boolOf, nth, List.getD_cons_zero, List.getD_cons_succ, List.getElem?_cons_zero, List.getElem?_cons_succ, Option.bind_some, if_true, hK, BEq.rfl]
        try go_simp
        first | exact rfl | (rw [if_pos (by omega)]; exact is_here rfl) | (rw [dif_pos (by omega)]; exact is_here rfl) | exact congrArg (Value.int _) (IntWalk.i64_in _ ⟨by omega, by omega⟩) | skip
      case' s2 =>
        intro ρ wr hρ hg hK
        simp [readsOf, slotsOf, Op.operands, Call.operands, tmpOf, List.filterMap_cons, List.filterMap_nil, KnownAll, knownOf, srcOf, depsOf, dstOf, Region.binds, nth, Is] at hK
        obtain ⟨hc, hf, hgl⟩ := hρ
        try simp only [wantedBy, dstOf, boolOf, nth, List.getD_cons_zero, List.getD_cons_succ, List.getElem?_cons_zero, List.getElem?_cons_succ, Option.bind_some, if_true, hK, BEq.rfl]
      case s2 =>
        obtain ⟨e0, e1⟩ := hK
        obtain ⟨v, w2, r1, r2, r3⟩ := append_once2 (ty := 31) (u := 31) elemB OJ.out HRow.out HAA.out HBB.out hg (Src.bytes (hg.owns OE.out HER.out).bytes rfl Tryz.underlying31) mA mB hb7
        simp only [execOp, resolve, invoke, builtin, Sem.run_bind, Sem.run_pure, Result.andThen_ok, List.map_toArray, List.map_cons, List.map_nil, e0, e1]
        rw [r1]
        exact ⟨r2, r3⟩
      case s4 =>
        have := hg.cell x3 hbxrow
        go_simp
        exact rfl
      case fin =>
        intro w1 val hg hH
        simp only [Holds, Is, Nat.zero_add, Nat.reduceAdd] at hH
        obtain ⟨h0, h1, h2, h3, h4, _⟩ := hH
        simp only [List.take_succ_cons, List.take_zero, List.drop_succ_cons, List.drop_zero, putAll, h0, h1, h3, h4, Nat.zero_add, Nat.reduceAdd]
        obtain ⟨ad9, c9, e9, o9, hbb9, hf9⟩ := h2
        clear hbb9
        simp only [e9]
        go_simp
        clear HCK HBE HTH HEN HNX HPS HPL HP0 B1 G1 B2 G2 G3 B3 P3 N3 G4 N4 B4 HP4 G5 P5 B5 G6 P6 oe
        have HLN := Lib.hid (show 5 + 8 * t + E.length + vl.length = node.length by have := HEL.out; have := HNB.out; omega)
        have hG9 : Gr w7 w1 := HG.out.grown hg.1 (fun g' h => (HRL.out g' h).2)
        rw [← bv_append] at o9
        have mC : 5 + 8 * t + E.length + vl.length ≤ maxLen := by unfold maxLen; omega
        have mD : (5 + 8 * t + E.length + vl.length) * 1 ≤ 140737488355328 := by omega
        have hb9 := hG9.size
        go_wp2_with (first
          | (at_builtin; go_must (refine wp_append elemB rfl _ _ rfl rfl o9 rfl (src_str vl Tryz.underlying9) mC mD hb9 ?_); intro ad16 c16 w16 o16 k16 f16
             rw [← bv_append, HPA.out, HLN.out] at o16
             rw [HLN.out]
             have G16 := hG9.onto o9 (Nat.le_refl _) k16)
          | fail)
        have GW := Lib.hid (G7.out.trans G16)
        have B16 := Lib.hid (B7.out.gr G16)
        have P16 := Lib.hid (P7.out.gr G16)
        have hsz7 := G7.out.size
        have hb7' := B7.out.lt
        have hp7' := P7.out.lt
        have hs16 := G16.size
        have O16 := Lib.hid o16
        have hn1173 : node.length ≤ 1173 := by have := HLN.out; omega
        clear o16 G16 k16 f16 hG9 mC mD hb9 o9 e9 hf9 hg h0 h1 h3 h4 OJ OE HG HAA HBB HRL HER x3 mA mB BJ PJ GJ
        have HSW := Lib.hid (HS.out.gr (GW.out.trans (Gr.drew w16)))
        have hS : ∀ j, S j → j < w16.drew.heap.size := HSW.out.pool.lt
        have hSw : ∀ j, S j → j < w.heap.size := HS.out.pool.lt
        have HSW2 := Lib.hid hSw
        have hgl := HS.out.blk.lt
        have HOUT := Lib.hid HS.out.out
        clear hSw
        have HPL0 := Lib.hid (Pl.none HSW.out.pool HSW.out.ok)
        obtain ⟨W0, hW0⟩ : ∃ W0 : World, W0 = { w16.drew with heap := #[] } := ⟨_, rfl⟩
        rw [← hW0] at HPL0
        have hw0 : W0.heap.size ≤ w16.drew.heap.size := by rw [hW0]; exact Nat.zero_le _
        clear hW0
        have HAl := Lib.hid (fun wr (h : Pl W0 wr S g p) => Alloc_pl h HAL.out)
        simp only at HAl
        have HI0 := Lib.hid (AInv.start (p' := p1) (cs := hc ⟨(L.r : Int), (gn : Int), (o : Int), (node.length : Int)⟩) HPL0.out)
        refine region_ghost (Le := ALe W0 w16.drew S g p p1 (hc ⟨(L.r : Int), (gn : Int), (o : Int), (node.length : Int)⟩)) PreI ALe.refl ALe.trans AG.none PreI.start _ [IsG ?r0x1, IsG ?r1x1, IsG ?r2x1, IsG (.pointer (some ⟨g, 0, none⟩)), IsG ?r4x1, IsG ?r5x1, IsG ?r6x1, IsG (.int .i64 (L.r : Int)), IsG (.slice ad16 node.length c16), IsG (.int .i64 (node.length : Int)), DoneG (.tuple #[.agg #[.int .i64 (L.r : Int), .int .i64 (gn : Int), .int .i64 (o : Int), .int .i64 (node.length : Int)], .int .i64 0]), IsG (.tuple #[.agg #[.int .i64 (L.r : Int), .int .i64 (gn : Int), .int .i64 (o : Int), .int .i64 (node.length : Int)], .int .i64 0]), IsG (.agg #[.int .i64 (L.r : Int), .int .i64 (gn : Int), .int .i64 (o : Int), .int .i64 (node.length : Int)]), IsG (.int .i64 0), HasG, StG, IsG (.int .i64 0)] (by kernel_rfl) (by kernel_rfl) (by kernel_rfl) rfl rfl ⟨IsG.stable _, IsG.stable _, IsG.stable _, IsG.stable _, IsG.stable _, IsG.stable _, IsG.stable _, IsG.stable _, IsG.stable _, IsG.stable _, DoneG.stable _, IsG.stable _, IsG.stable _, IsG.stable _, HasG.stable, StG.stable, IsG.stable _, trivial⟩ ⟨?s0x1, ?s1x1, ?s2x1, ?s3x1, ?s4x1, ?s5x1, ?s6x1, ?s7x1, ?s8x1, ?s9x1, ?s10x1, ?s11x1, ?s12x1, ?s13x1, ?s14x1, ?s15x1, ?s16x1, trivial⟩ ?finx1
        case' s0x1 | s1x1 | s2x1 | s3x1 | s4x1 | s5x1 | s6x1 | s7x1 | s8x1 | s9x1 | s11x1 | s12x1 | s13x1 | s16x1 =>
          intro ρ wr gh hρ hg hK
          simp [readsOf, slotsOf, Op.operands, Call.operands, tmpOf, List.filterMap_cons, List.filterMap_nil, KnownAll, knownOf, srcOf, depsOf, dstOf, Region.binds, nthG, IsG, IsS] at hK
          obtain ⟨hc, hf, hgl⟩ := hρ
          try simp only [wantedBy, dstOf, boolOf, nthG, List.getD_cons_zero, List.getD_cons_succ, List.getElem?_cons_zero, List.getElem?_cons_succ, Option.bind_some, if_true, hK, BEq.rfl]
          try go_simp
          first | exact rfl | exact pureG ALe.refl rfl | (refine pureG ALe.refl ?_; go_simp; done) | (refine pureG ALe.refl ?_; rfl) | (rw [if_pos (by omega)]; exact pureG ALe.refl rfl) | (rw [dif_pos (by omega)]; exact pureG ALe.refl rfl) | exact pureG ALe.refl (congrArg (Value.int _) (IntWalk.i64_in _ ⟨by omega, by omega⟩)) | skip
        case' s10x1 | s14x1 | s15x1 =>
          intro ρ wr gh hρ hg hK
          simp [readsOf, slotsOf, Op.operands, Call.operands, tmpOf, List.filterMap_cons, List.filterMap_nil, KnownAll, knownOf, srcOf, depsOf, dstOf, Region.binds, nthG, IsG, IsS] at hK
          obtain ⟨hc, hf, hgl⟩ := hρ
          try simp only [wantedBy, dstOf, boolOf, nthG, List.getD_cons_zero, List.getD_cons_succ, List.getElem?_cons_zero, List.getElem?_cons_succ, Option.bind_some, if_true, hK, BEq.rfl]
        case s3x1 | s7x1 =>
          have HI := hg.1.2 HI0.out
          obtain ⟨x0, x1, x2⟩ := lst_heads HSW.out.blk
          have hgl2 := HSW.out.blk.lt
          have z0 := HI.chg.cell x0 (by rintro (e | e); exact HOUT.out e; omega)
          have z1 := HI.chg.cell x1 (by rintro (e | e); exact HOUT.out e; omega)
          first
            | (rw [z0]; exact pureG ALe.refl rfl)
            | (rw [z1]; exact pureG ALe.refl rfl)
        case s11x1 =>
          rw [hK.1]
          exact pureG ALe.refl rfl
        case s10x1 =>
          have HI := hg.1.2 HI0.out
          have hd : gh.done = false := (hg.2 10 (by kernel_rfl)).1 rfl
          have hP : Pl W0 wr S g p := by have := HI.pool; rw [if_neg (by rw [hd]; decide)] at this; exact this
          have HPh := Lib.hid hP; have HD := Lib.hid hd
          clear HI hP hd
          go_simp
          refine growG_enter ((HAl.out wr HPh.out).mono fun e w'' ⟨he, S', m, P'⟩ => ⟨_, { gh with done := true }, he, ⟨⟨⟨fun _ => rfl, fun _ h => h, fun h => h⟩, fun h => h.call HD.out hS m P'⟩, PreI.step (fun h => absurd rfl h) (fun _ h => h) (fun _ h => h)⟩, rfl, rfl⟩)
        case s14x1 =>
          have hb : gh.b = none := (hg.2 14 (by kernel_rfl)).2.1 rfl
          have HD := Lib.hid hb
          clear hb
          go_simp
          exact growG_value _ _ _ _ _ { gh with b := some wr.heap.size } ⟨⟨⟨fun h => h, fun b e => (by rw [HD.out] at e; cases e), fun h => h⟩, fun h => h.new HD.out⟩, PreI.step (fun _ h => h) (fun h => absurd rfl h) (fun _ h => h)⟩ ⟨_, rfl, rfl⟩
        case s15x1 =>
          obtain ⟨⟨b, eb, hb⟩, e64⟩ := hK
          have HI := hg.1.2 HI0.out
          have hst : gh.st = false := (hg.2 15 (by kernel_rfl)).2.2 rfl
          obtain ⟨hN, hB⟩ := HI.blk b hb
          rw [if_neg (by show ¬ gh.st = true; rw [hst]; decide)] at hB
          obtain ⟨c0, c1, c2, c3, f0, f1, f2, f3⟩ := Blk.four (a := .int .i64 0) (b := .int .i64 0) (c := .int .i64 0) (d := .int .i64 0) hB
          have HIh := Lib.hid HI; have HBb := Lib.hid hb; have HBk := Lib.hid hB
          clear HI hb hst hB
          go_simp
          have kk := grown_set4b wr b 0 (.int .i64 (L.r : Int)) (.int .i64 (gn : Int)) (.int .i64 (o : Int)) (.int .i64 (node.length : Int))
          have hB2 : Blk ((((wr.setCell ⟨b, 0, none⟩ (.int .i64 (L.r : Int))).setCell ⟨b, 0 + 1, none⟩ (.int .i64 (gn : Int))).setCell ⟨b, 0 + 2, none⟩ (.int .i64 (o : Int))).setCell ⟨b, 0 + 3, none⟩ (.int .i64 (node.length : Int))) b 58 (Go.Proofs.YtpaogoehgkoaeaaGreatDoor.hc ⟨(L.r : Int), (gn : Int), (o : Int), (node.length : Int)⟩) := (((HBk.out.set_ 0 _).set_ 1 _).set_ 2 _).set_ 3 _
          exact growG_skip { gh with st := true } ⟨⟨⟨fun h => h, fun _ h => h, fun _ => rfl⟩, fun h => h.store hS hw0 HBb.out kk hB2⟩, PreI.step (fun _ h => h) (fun _ h => h) (fun h => absurd rfl h)⟩ rfl
        case finx1 =>
          intro w1 g1 val hg hH
          simp only [HoldsG, IsG, IsS, Nat.zero_add, Nat.reduceAdd] at hH
          obtain ⟨h0, h1, h2, h3, h4, h5, h6, h7, h8, h9, h10, h11, h12, h13, h14, h15, h16, _⟩ := hH
          simp only [List.take_succ_cons, List.take_zero, List.drop_succ_cons, List.drop_zero, putAll, h0, h1, h2, h3, h4, h5, h6, h7, h8, h9, h11, h12, h13, h16, Nat.zero_add, Nat.reduceAdd]
          have HI := hg.2 HI0.out
          obtain ⟨e10, hd⟩ := h10
          obtain ⟨b, e14, hb⟩ := h14
          have hst : g1.st = true := h15
          simp only [e10, e14]
          have hpl := HI.pool
          rw [if_pos hd] at hpl
          obtain ⟨S', P', hS'⟩ := hpl
          obtain ⟨hNb, hBk⟩ := HI.blk b hb
          rw [if_pos (show (w1, g1).2.st = true from hst)] at hBk
          have hPA := P'.drop hBk
          have hb2 : ∀ j, (S' j ∧ j ≠ b) → S j ∨ w16.drew.heap.size ≤ j := fun j hj => hS' j hj.1
          have hgl2 := HSW.out.blk.lt
          have hIW : IW w S (fun j => S' j ∧ j ≠ b) g gl w3.heap.size w.heap.size b R [.string (str key), .int .i64 (seq : Int), .int .i64 (kind : Int), .string (str vl)] [.int .i64 (L.r : Int), .int .i64 (gn : Int), .int .i64 (o : Int), .int .i64 (node.length : Int)] p1 L w1 := by
            have hdr : w16.drew.heap.size = w16.heap.size := rfl
            have hgw := GW.out.size
            have hp16 := P16.out.lt
            have hb16 := B16.out.lt
            have nin : ∀ j, w.heap.size ≤ j → j < w16.heap.size → ¬ (S j ∨ w16.drew.heap.size ≤ j) := fun j h1 h2 e => by
              rcases e with e | e
              · have := HSW2.out j e; omega
              · omega
            have nin2 : ∀ j, w.heap.size ≤ j → j < w16.heap.size → ¬ (S' j ∧ j ≠ b) := fun j h1 h2 e => nin j h1 h2 (hb2 j e)
            have ngl : ¬ (S' gl ∧ gl ≠ b) := fun e => by
              rcases hb2 gl e with e | e
              · exact HOUT.out e
              · omega
            refine ⟨⟨hPA.pool, HOK1.out, HI.chg.blk HSW.out.blk (by rintro (e | e); exact HOUT.out e; omega), ngl⟩, (GW.out.trans (Gr.drew w16)).chg.trans HI.chg (fun j hj => ?_), HI.chg.blk P16.out (nin _ hw3 hp16), HI.chg.blk B16.out (nin _ (Nat.le_refl _) hb16), hBk, ⟨nin2 _ hw3 hp16, by omega⟩, ⟨nin2 _ (Nat.le_refl _) hb16, by omega⟩, ⟨fun e => e.2 rfl, by omega⟩, fun j hj => ?_⟩
            · rcases hj with hj | hj
              · exact .inl (.inl hj)
              · exact .inr (by omega)
            · rcases hb2 j hj with h | h
              · exact .inl h
              · exact .inr (by omega)
          have hob : Owns w1 w7.heap.size 5 1 ad16 c16 node.length (bv node) := HI.chg.owns (O16.out.gr (Gr.drew w16)) (fun x hx e => by
            have h1 := O16.out.lt x hx
            rcases e with e | e
            · have := HSW2.out _ e; omega
            · have : w16.drew.heap.size = w16.heap.size := rfl; omega)
          have hS2 : ∀ x, ad16 = some x → ¬ (S' x.block ∧ x.block ≠ b) ∧ x.block ≠ gl := fun x hx => by
            have h1 := O16.out.lt x hx
            refine ⟨fun e => ?_, by omega⟩
            rcases hb2 _ e with e | e
            · have := HSW2.out _ e; omega
            · have : w16.drew.heap.size = w16.heap.size := rfl; omega
          generalize (fun j => S' j ∧ j ≠ b) = S2 at hIW hS2
          have HIW := Lib.hid hIW
          have HOB := Lib.hid hob
          have HS2 := Lib.hid hS2
          obtain ⟨d0, d1, d2, d3, _⟩ := hIW.han.four
          obtain ⟨y0, y1, y2⟩ := lst_heads hIW.sk.blk
          have yf := hIW.sk.blk.frozen 2
          clear hPA hb2 hgl2 hIW hob hS2 HI P' hS' hNb hBk HI0 HPL0 HAl HSW O16 GW B16 P16 hst hb hd hg e10 e14 h15
          go_simp
          go_wp2
          obtain ⟨sk2, ch2⟩ := HIW.out.sk.setCell 2 (.int .i64 (gn : Int)) (lstV_gen g L gn)
          have hI2 := HIW.out.step sk2 (ch2.mono (fun j hj => .inr hj))
          have hO2 := ch2.owns HOB.out (fun x hx => (HS2.out x hx).2)
          clear d0 d1 d2 d3 y0 y1 y2 yf sk2 ch2
          generalize (w1.setCell ⟨gl, 2, none⟩ (.int .i64 (gn : Int))) = W2 at *
          have HI2 := Lib.hid hI2
          have HO2 := Lib.hid hO2
          have HSt := Lib.hid (fun w' (hg : Gr W2 w') => Store_any w' S2 g p1 ⟨(L.r : Int), (gn : Int), (o : Int), (node.length : Int)⟩ 0 ad16 node.length c16 node (hI2.sk.gr hg).pool HOK1.out (hO2.gr hg).bytes rfl (by omega))
          have hsto := HSTO.out
          rw [hsto] at HSt
          unfold hdv at HSt
          simp only at HSt
          clear hI2 hO2 hsto HIW HOB
          refine region_tail_gr 6 _ [Is ?r0x2, Is ?r1x2, Is ?r2x2, Is (.pointer (some ⟨g, 0, none⟩)), Is (.agg #[.int .i64 (L.r : Int), .int .i64 (gn : Int), .int .i64 (o : Int), .int .i64 (node.length : Int)]), Is (.slice ad16 node.length c16)] (by kernel_rfl) (by kernel_rfl) (by kernel_rfl) (by kernel_rfl) rfl rfl ⟨Is.stable _, Is.stable _, Is.stable _, Is.stable _, Is.stable _, Is.stable _, trivial⟩ ⟨?s0x2, ?s1x2, ?s2x2, ?s3x2, ?s4x2, ?s5x2, trivial⟩ ?finx2
          case' s0x2 | s1x2 | s2x2 | s3x2 | s4x2 | s5x2 =>
            intro ρ wr hρ hg hK
            simp [readsOf, slotsOf, Op.operands, Call.operands, tmpOf, List.filterMap_cons, List.filterMap_nil, KnownAll, knownOf, srcOf, depsOf, dstOf, Region.binds, nth, Is] at hK
            obtain ⟨hc, hf, hgl⟩ := hρ
            try simp only [wantedBy, dstOf, boolOf, nth, List.getD_cons_zero, List.getD_cons_succ, List.getElem?_cons_zero, List.getElem?_cons_succ, Option.bind_some, if_true, hK, BEq.rfl]
            try go_simp
            first | exact rfl | (rw [if_pos (by omega)]; exact is_here rfl) | (rw [dif_pos (by omega)]; exact is_here rfl) | exact congrArg (Value.int _) (IntWalk.i64_in _ ⟨by omega, by omega⟩) | skip
          case s3x2 =>
            obtain ⟨c0, _, _⟩ := lst_heads (HI2.out.sk.gr hg).blk
            go_simp
            exact rfl
          case s4x2 =>
            obtain ⟨d0, d1, d2, d3, _⟩ := (HI2.out.gr hg).han.four
            go_simp
            exact rfl
          case finx2 =>
            intro w1 val hg hH
            simp only [Holds, Is, Nat.zero_add, Nat.reduceAdd] at hH
            obtain ⟨h0, h1, h2, h3, h4, h5, _⟩ := hH
            simp only [List.take_succ_cons, List.take_zero, List.drop_succ_cons, List.drop_zero, putAll, h0, h1, h2, h3, h4, h5, Nat.zero_add, Nat.reduceAdd]
            have HI3 := Lib.hid (HI2.out.gr hg)
            have HSt3 := Lib.hid (HSt.out _ hg)
            clear HSt HI2 HO2 hg
            go_simp
            go_wp2_with (first
              | (go_at_call 67; go_must (refine HSt3.out.mono ?_); rintro e w5 ⟨rfl, m5⟩
                 have HI5 := Lib.hid (HI3.out.step (p' := p2) (L' := { L with gen := gn }) ⟨m5.pool, HOK2.out, m5.chg.blk HI3.out.sk.blk HI3.out.sk.out, HI3.out.sk.out⟩ (m5.chg.mono (fun j hj => .inl hj)))
                 clear HI3 HSt3 m5)
              | fail)
            clear h0 h1 h2 h3 h4 h5
            go_loopw [147] (fun v wr => ∃ (j : Nat) (q : PoolF) (hd : Nat → Nat × Nat), j ≤ t ∧ v = .int .i64 (j : Int) ∧ IW w S S2 g gl w3.heap.size w.heap.size b R [.string (str key), .int .i64 (seq : Int), .int .i64 (kind : Int), .string (str vl)] [.int .i64 (L.r : Int), .int .i64 (gn : Int), .int .i64 (o : Int), .int .i64 (node.length : Int)] q { L with gen := gn, hd := hd } wr ∧
              SkSt q L.r gn hd (A ++ ⟨o, node.length, j, t, ⟨key, seq, kind, vl⟩⟩ :: B) ∧ Kp L.r p q ∧ countF p ≤ countF q + 1) (fun v _ => t - (intOf v).toNat)
            case atStart => exact ⟨0, p2, L.hd, Nat.zero_le _, rfl, HI5.out, HST2.out, HKP2.out, HCF2.out⟩
            case round =>
              clear HI5 HST2 HKP2 HCF2 HOK2
              obtain ⟨j, q, hd, hj, rfl, hI, hst, hkp, hcf⟩ := hrel
              by_cases hjt : j < t
              · have hj12 : j < 12 := by omega
                have HPUT := Lib.hid (fun w' (hg : Gr wr w') => put_any w' S2 g gl q { L with gen := gn, hd := hd } A B ⟨o, node.length, j, t, ⟨key, seq, kind, vl⟩⟩ (hI.gr hg).sk hst hjt (fun y hy => HFU.out y (List.mem_append_left _ hy)))
                have hlk : linkF (lastN j A) = R j := by rw [HR.out]
                simp only [hlk] at HPUT
                have HI := Lib.hid hI; have HSTJ := Lib.hid hst; have HKP := Lib.hid hkp; have HCF := Lib.hid hcf
                obtain ⟨r0, r1⟩ := rowV_get R 12 j hj12
                have R0 := Lib.hid r0; have R1 := Lib.hid r1
                clear hI hst hkp hcf hlk r0 r1
                unfold lnk at HPUT
                simp only at HPUT
                go_wp2
                refine region_tail_gr 10 _ [Is ?r0x3, Is (.int .i64 (j : Int)), Is (.pointer (some ⟨w3.heap.size, j * 2, none⟩)), Is (.agg #[.int .i64 ((R j).1 : Int), .int .i64 ((R j).2 : Int)]), Is (.int .i64 (j : Int)), Is ?r5x3, Is (.int .i64 (o : Int)), Is ?r7x3, Is (.int .i64 (node.length : Int)), Is (.agg #[.int .i64 (o : Int), .int .i64 (node.length : Int)])] (by kernel_rfl) (by kernel_rfl) (by kernel_rfl) (by kernel_rfl) rfl rfl ⟨Is.stable _, Is.stable _, Is.stable _, Is.stable _, Is.stable _, Is.stable _, Is.stable _, Is.stable _, Is.stable _, Is.stable _, trivial⟩ ⟨?s0x3, ?s1x3, ?s2x3, ?s3x3, ?s4x3, ?s5x3, ?s6x3, ?s7x3, ?s8x3, ?s9x3, trivial⟩ ?finx3
                case' s0x3 | s1x3 | s2x3 | s3x3 | s4x3 | s5x3 | s6x3 | s7x3 | s8x3 | s9x3 =>
                  intro ρ wr hρ hg hK
                  simp [readsOf, slotsOf, Op.operands, Call.operands, tmpOf, List.filterMap_cons, List.filterMap_nil, KnownAll, knownOf, srcOf, depsOf, dstOf, Region.binds, nth, Is] at hK
                  obtain ⟨hc, hf, hgl⟩ := hρ
                  try simp only [wantedBy, dstOf, boolOf, nth, List.getD_cons_zero, List.getD_cons_succ, List.getElem?_cons_zero, List.getElem?_cons_succ, Option.bind_some, if_true, hK, BEq.rfl]
                  try go_simp
                  first | exact rfl | (rw [if_pos (by omega)]; exact is_here rfl) | (rw [dif_pos (by omega)]; exact is_here rfl) | exact congrArg (Value.int _) (IntWalk.i64_in _ ⟨by omega, by omega⟩) | skip
                case s3x3 =>
                  have c0 := (HI.out.gr hg).path.cell R0.out
                  have c1 := (HI.out.gr hg).path.cell R1.out
                  go_simp
                  exact rfl
                case s6x3 | s8x3 =>
                  obtain ⟨d0, d1, d2, d3, _⟩ := (HI.out.gr hg).han.four
                  go_simp
                  exact rfl
                case finx3 =>
                  intro w1 val hg hH
                  simp only [Holds, Is, Nat.zero_add, Nat.reduceAdd] at hH
                  obtain ⟨h0, h1, h2, h3, h4, h5, h6, h7, h8, h9, _⟩ := hH
                  simp only [List.take_succ_cons, List.take_zero, List.drop_succ_cons, List.drop_zero, putAll, h0, h1, h2, h3, h4, h5, h6, h7, h8, h9, Nat.zero_add, Nat.reduceAdd]
                  have HP := Lib.hid (HPUT.out _ hg)
                  have HI6 := Lib.hid (HI.out.gr hg)
                  clear hg HPUT HI h0 h1 h2 h3 h4 h5 h6 h7 h8 h9
                  go_simp
                  go_wp2_with (first
                    | (go_at_call 68; go_must (refine HP.out.mono ?_); rintro e w7 ⟨rfl, p', hd', sk', st', kp', cf', ch'⟩
                       have HI7 := Lib.hid (HI6.out.step sk' ch')
                       have HST7 := Lib.hid st'; have HKP7 := Lib.hid kp'; have HCF7 := Lib.hid cf'
                       clear sk' ch' st' kp' cf' HP HI6)
                    | fail)
                  refine ⟨?rel, ?measure⟩
                  case rel => exact ⟨j + 1, p', hd', hjt, by go_num, HI7.out, HST7.out, HKP.out.trans HKP7.out, by have := HCF.out; have := HCF7.out; omega⟩
                  case measure => simp [intOf]; omega
              · have hjt2 : j = t := by omega
                rw [hjt2] at hst
                have HI := Lib.hid hI; have HSTJ := Lib.hid hst; have HKP := Lib.hid hkp; have HCF := Lib.hid hcf
                obtain ⟨y27, y28, _, _⟩ := lst_tail hI.sk.blk
                have f27 := hI.sk.blk.frozen 27
                have f28 := hI.sk.blk.frozen 28
                have hcI : (L.cnt : Int) ≤ 1000000 := by omega
                have hwI : (L.wt : Int) ≤ 1000000000 := by omega
                clear hI hst hkp hcf hjt2 hj
                simp only at y27 y28
                go_wp2
                obtain ⟨sk8, ch8⟩ := HI.out.sk.setCell 27 (.int .i64 ((L.cnt + 1 : Nat) : Int)) (lstV_cnt g _ (L.cnt + 1))
                have hI8 := HI.out.step sk8 (ch8.mono (fun j hj => .inr hj))
                have hc1 : ((L.cnt + 1 : Nat) : Int) = (L.cnt : Int) + 1 := by omega
                rw [hc1] at hI8
                clear sk8 ch8 y27 y28 f27 f28 hc1
                generalize (wr.setCell ⟨gl, 27, none⟩ (.int .i64 ((L.cnt : Int) + 1))) = W8 at *
                have HI8 := Lib.hid hI8
                have HWT := Lib.hid (show ((L.wt + (key.length + vl.length + 8) : Nat) : Int) = (L.wt : Int) + ((key.length : Int) + (vl.length : Int) + 8) by omega)
                have hk64 := HK.out
                clear hI8
                refine region_tail_gr 16 _ [Is ?r0x4, Is ?r1x4, Is ?r2x4, Is (.int .i64 (L.wt : Int)), Is ?r4x4, Is ?r5x4, Is (.string (str key)), Is (.int .i64 (key.length : Int)), Is ?r8x4, Is (.string (str vl)), Is (.int .i64 (vl.length : Int)), Is (.int .i64 ((key.length : Int) + (vl.length : Int))), Is (.int .i64 ((key.length : Int) + (vl.length : Int) + 8)), Is (.int .i64 ((L.wt : Int) + ((key.length : Int) + (vl.length : Int) + 8))), Is ?r14x4, Is (.pointer (some ⟨gl, 28, none⟩))] (by kernel_rfl) (by kernel_rfl) (by kernel_rfl) (by kernel_rfl) rfl rfl ⟨Is.stable _, Is.stable _, Is.stable _, Is.stable _, Is.stable _, Is.stable _, Is.stable _, Is.stable _, Is.stable _, Is.stable _, Is.stable _, Is.stable _, Is.stable _, Is.stable _, Is.stable _, Is.stable _, trivial⟩ ⟨?s0x4, ?s1x4, ?s2x4, ?s3x4, ?s4x4, ?s5x4, ?s6x4, ?s7x4, ?s8x4, ?s9x4, ?s10x4, ?s11x4, ?s12x4, ?s13x4, ?s14x4, ?s15x4, trivial⟩ ?finx4
                case' s0x4 | s1x4 | s2x4 | s3x4 | s4x4 | s5x4 | s6x4 | s7x4 | s8x4 | s9x4 | s10x4 | s11x4 | s12x4 | s13x4 | s14x4 | s15x4 =>
                  intro ρ wr hρ hg hK
                  simp [readsOf, slotsOf, Op.operands, Call.operands, tmpOf, List.filterMap_cons, List.filterMap_nil, KnownAll, knownOf, srcOf, depsOf, dstOf, Region.binds, nth, Is] at hK
                  obtain ⟨hc, hf, hgl⟩ := hρ
                  try simp only [wantedBy, dstOf, boolOf, nth, List.getD_cons_zero, List.getD_cons_succ, List.getElem?_cons_zero, List.getElem?_cons_succ, Option.bind_some, if_true, hK, BEq.rfl]
                  try go_simp
                  first | exact rfl | (rw [if_pos (by omega)]; exact is_here rfl) | (rw [dif_pos (by omega)]; exact is_here rfl) | exact congrArg (Value.int _) (IntWalk.i64_in _ ⟨by omega, by omega⟩) | skip
                case s3x4 =>
                  obtain ⟨_, y28, _, _⟩ := lst_tail (HI8.out.gr hg).sk.blk
                  simp only at y28
                  go_simp
                  exact rfl
                case s6x4 =>
                  obtain ⟨c0, c1, c2, c3, _⟩ := (HI8.out.gr hg).box.four
                  go_simp
                  exact rfl
                case s9x4 =>
                  obtain ⟨c0, c1, c2, c3, _⟩ := (HI8.out.gr hg).box.four
                  go_simp
                  exact rfl
                case finx4 =>
                  intro w1 val hg hH
                  simp only [Holds, Is, Nat.zero_add, Nat.reduceAdd] at hH
                  obtain ⟨h0, h1, h2, h3, h4, h5, h6, h7, h8, h9, h10, h11, h12, h13, h14, h15, _⟩ := hH
                  simp only [List.take_succ_cons, List.take_zero, List.drop_succ_cons, List.drop_zero, putAll, h0, h1, h2, h3, h4, h5, h6, h7, h8, h9, h10, h11, h12, h13, h14, h15, Nat.zero_add, Nat.reduceAdd]
                  have HI9 := Lib.hid (HI8.out.gr hg)
                  obtain ⟨_, y28, _, _⟩ := lst_tail HI9.out.sk.blk
                  have f28 := HI9.out.sk.blk.frozen 28
                  simp only at y28
                  clear HI8 HI hg h0 h1 h2 h3 h4 h5 h6 h7 h8 h9 h10 h11 h12 h13 h14 h15
                  go_simp
                  go_wp2
                  go_ret
                  obtain ⟨sk9, ch9⟩ := HI9.out.sk.setCell 28 (.int .i64 ((L.wt + (key.length + vl.length + 8) : Nat) : Int)) (lstV_wt g _ (L.wt + (key.length + vl.length + 8)))
                  have hI10 := HI9.out.step sk9 (ch9.mono (fun j hj => .inr hj))
                  rw [HWT.out] at hI10
                  refine ⟨rfl, q, S2, hd, ?_, ⟨o, by rw [← HNB.out]; exact HSTJ.out⟩, HKP.out, HCF.out, hI10.chg, hI10.sub⟩
                  have := hI10.sk
                  simp only [hfz, hfd] at this
                  exact this
end Go.Proofs.YtpaogoehgkoaeaaGreatDoor
/- Layer 11 (skip): Insert refuses. -/
namespace Go.Proofs.YtpaogoehgkoaeaaGreatDoor
set_option linter.unusedVariables false
set_option linter.unusedSimpArgs false
open Go.RowKit Ikey Varint
set_option maxRecDepth 100000 in
set_option maxHeartbeats 2000000 in
theorem Insert_no (w : World) (g gl : Nat) (L : Ls) (hb : Blk w gl 124 (lstV g L)) (k : List UInt8) (s d : Int) (v : List UInt8) (h : Int) (hv : v.length ≤ 9223372036854775807) (n : Nat) (hn : chkI L.fz L.fd k s d v h = n) (hn0 : n ≠ 0) :
    Calls Tryz.prog 18 #[.pointer (some ⟨gl, 0, none⟩), celV k s d v, .int .i64 h] w fun e w' => e = .returned (.int .i64 (n : Int)) ∧ Gr w w' := by
  have HCK := Lib.hid (fun w' (hg : Gr w w') => scheck_any w' g gl L (hb.gr hg) k s d v h hv)
  rw [hn] at HCK
  have hnb : ((n : Int) != 0) = true := by rw [bne_iff_ne]; omega
  have G1 := Lib.hid (Gr.alloc w (.cells #[.string (str k), .int .i64 s, .int .i64 d, .string (str v)] 56))
  clear hn hn0 hb
  unfold celV at HCK ⊢
  go_enter Tryz.func18, Tryz.ntmps18
  go_wp2_with (first
    | (go_at_call 59; go_must (refine (HCK.out _ G1.out).mono ?_); rintro e w2 ⟨rfl, g2⟩)
    | fail)
  go_ret
  exact ⟨rfl, G1.out.trans g2⟩
set_option maxRecDepth 100000 in
set_option maxHeartbeats 4000000 in
theorem Insert_there (w : World) (S : Nat → Prop) (g gl : Nat) (p : PoolF) (L : Ls) (A B : List Nd) (x : Nd) (c : Ce) (t : Int) (h : Sk w S g gl p L) (st : SkSt p L.r L.gen L.hd (A ++ x :: B)) (full : ∀ y ∈ A ++ x :: B, y.h = y.t)
    (hck : chkI L.fz L.fd c.key c.seq c.kind c.val t = 0) (hv : c.val.length ≤ 1000)
    (hA : ∀ y ∈ A, vless y.c.vr c.vr = true) (hB : ∀ y ∈ x :: B, vless y.c.vr c.vr = false) (hx : isV x.c c.vr = true) :
    Calls Tryz.prog 18 #[.pointer (some ⟨gl, 0, none⟩), celV c.key c.seq c.kind c.val, .int .i64 t] w fun e w' => e = .returned (.int .i64 8) ∧ Gr w w' := by
  have HCK := Lib.hid (fun w' (hg : Gr w w') => scheck_any w' g gl L (h.gr hg).blk c.key c.seq c.kind c.val t (by omega))
  rw [hck] at HCK
  have HBE := Lib.hid (fun w' (hg : Gr w w') => behind_any w' S g gl p L A (x :: B) c.vr (h.gr hg) st full hA hB)
  have hxm : x ∈ A ++ x :: B := by simp
  obtain ⟨n1, _⟩ := st.node x hxm
  have hs := nd_size n1
  have hfn : firstN 0 (x :: B) = some x := by rw [firstN_cons, if_pos (by have := full x hxm; have := n1.t1; omega)]
  rw [hfn] at HBE
  have hlk : linkF (some x) = (x.off, x.size) := rfl
  rw [hlk] at HBE
  have HTH := Lib.hid (fun w' (hg : Gr w w') => there_some w' S g gl p L (x.off, x.size) c.vr x.t _ x.c (h.gr hg) (st.ld A x B rfl) (by show 1 ≤ x.size; omega) n1.t1 n1.t2 n1.ok n1.vl)
  rw [hx] at HTH
  obtain ⟨R, hR⟩ : ∃ R : Nat → Nat × Nat, R = fun k => linkF (lastN k A) := ⟨_, rfl⟩
  rw [← hR] at HBE
  have G1 := Lib.hid (Gr.alloc w (.cells #[.string (str c.key), .int .i64 (c.seq : Int), .int .i64 (c.kind : Int), .string (str c.val)] 56))
  have B1 := Lib.hid (Blk.new w 56 #[.string (str c.key), .int .i64 (c.seq : Int), .int .i64 (c.kind : Int), .string (str c.val)])
  clear hck hA hB hx st full h hR hlk hfn n1 hxm
  unfold Ce.vr at HBE HTH
  unfold ver at HBE HTH
  simp only at HBE HTH
  unfold lnk at HBE HTH
  unfold celV at HCK ⊢
  simp only at HBE HTH
  obtain ⟨key, seq, kind, vl⟩ := c
  simp only at *
  go_enter Tryz.func18, Tryz.ntmps18
  go_wp2_with (first
    | (go_at_call 59; go_must (refine (HCK.out _ G1.out).mono ?_); rintro e w2 ⟨rfl, g2⟩
       have G2 := Lib.hid (G1.out.trans g2)
       have B2 := Lib.hid (B1.out.gr g2)
       obtain ⟨c0, c1, c2, c3, _⟩ := B2.out.four)
    | (go_at_call 60; go_must (refine (HBE.out _ G2.out).mono ?_); rintro e w3 ⟨rfl, g3⟩
       clear c0 c1 c2 c3
       have G3 := Lib.hid (G2.out.trans g3)
       have B3 := Lib.hid (B2.out.gr g3)
       have P3 := Lib.hid (Blk.of2a (w := w3) (cs := (rowV (fun _ => (0, 0)) 12).toArray) (t := 122) (o := .cells #[.int .i64 0, .int .i64 0] 121) (Gr.refl _))
       have N3 := Lib.hid (Blk.of2b (w := w3) (o := .cells (rowV (fun _ => (0, 0)) 12).toArray 122) (cs := #[.int .i64 0, .int .i64 0]) (t := 121) (Gr.refl _)))
    | ((with_reducible show Go.wpList _ _ _ (Oper.mk _ (Op.store 122 _ _) _ _ _ _ :: _) _ _); go_must (refine wp_store_row rfl _ _ _ rfl rfl (cs' := rowV R 12) rfl P3.out (n := 24) (by kernel_rfl) (rowV_len _ 12) (rowV_len _ 12) (rowV_one _ 12) ?_); intro w4 P4 k4
       have hw3 := G3.out.size
       have hbx := B3.out.lt
       have G4 := Lib.hid ((G3.out.trans ((Gr.alloc w3 (.cells (rowV (fun _ => (0, 0)) 12).toArray 122)).trans (Gr.alloc _ (.cells #[.int .i64 0, .int .i64 0] 121)))).grown k4 (fun k e => by cases e; exact hw3))
       have N4 := Lib.hid (N3.out.grown k4 (by simp))
       have B4 := Lib.hid (((B3.out.alloc (.cells (rowV (fun _ => (0, 0)) 12).toArray 122)).alloc (.cells #[.int .i64 0, .int .i64 0] 121)).grown k4 (by simp; omega))
       clear k4 P4)
    | ((with_reducible show Go.wpList _ _ _ (Oper.mk _ (Op.store 121 _ _) _ _ _ _ :: _) _ _); go_must (refine wp_store_row rfl _ _ _ rfl rfl (cs' := [.int .i64 (x.off : Int), .int .i64 (x.size : Int)]) rfl N4.out (n := 2) (by kernel_rfl) rfl rfl (fun v hv => by simp at hv; rcases hv with rfl | rfl <;> rfl) ?_); intro w5 N5 k5
       have G5 := Lib.hid (G4.out.grown k5 (fun k e => by cases e; omega))
       have B5 := Lib.hid (B4.out.grown k5 (by simp; omega))
       obtain ⟨n0, n1, _, _⟩ := N5.two4
       obtain ⟨c0, c1, c2, c3, _⟩ := B5.out.four
       clear k5 N5)
    | (go_at_call 61; go_must (refine (HTH.out _ G5.out).mono ?_); rintro e w6 ⟨rfl, g6⟩
       have G6 := Lib.hid (G5.out.trans g6))
    | fail)
  go_ret
  exact ⟨rfl, G6.out⟩
end Go.Proofs.YtpaogoehgkoaeaaGreatDoor
/- Layer 11 (skip): Get; New. -/
namespace Go.Proofs.YtpaogoehgkoaeaaGreatDoor
set_option linter.unusedVariables false
set_option linter.unusedSimpArgs false
open Go.RowKit Ikey Varint
def clampF (s : Int) : Int := min (max s 0) 72057594037927935
def getN (B : List Nd) (key : List UInt8) (s : Int) : Option Ce :=
  match firstN 0 B with
  | some x => if 0 ≤ s ∧ x.c.key = key then some x.c else none
  | none => none
def zeC : Value := .agg #[.string ⟨#[]⟩, .int .i64 0, .int .i64 0, .string ⟨#[]⟩]
def ceO : Option Ce → Value
  | some c => .tuple #[ceV c, .int .i64 0]
  | none => .tuple #[zeC, .int .i64 7]
set_option maxRecDepth 100000 in
set_option maxHeartbeats 4000000 in
theorem sGet_any (w : World) (S : Nat → Prop) (g gl : Nat) (p : PoolF) (L : Ls) (A B : List Nd) (key : List UInt8) (s : Int) (h : Sk w S g gl p L) (st : SkSt p L.r L.gen L.hd (A ++ B)) (full : ∀ x ∈ A ++ B, x.h = x.t) (hfd : L.fd = false)
    (hA : ∀ x ∈ A, vless x.c.vr ⟨key, clampF s, 1⟩ = true) (hB : ∀ x ∈ B, vless x.c.vr ⟨key, clampF s, 1⟩ = false) :
    Calls Tryz.prog 26 #[.pointer (some ⟨gl, 0, none⟩), .string (str key), .int .i64 s] w fun e w' => e = .returned (ceO (getN B key s)) ∧ Gr w w' := by
  have HBE := Lib.hid (fun w' (hg : Gr w w') => behind_any w' S g gl p L A B ⟨key, clampF s, 1⟩ (h.gr hg) st full hA hB)
  obtain ⟨R, hR⟩ : ∃ R : Nat → Nat × Nat, R = fun k => linkF (lastN k A) := ⟨_, rfl⟩
  rw [← hR] at HBE
  have hcl : clampF s = min (max s 0) 72057594037927935 := rfl
  have G1 := Lib.hid (Gr.alloc w (.cells #[.string ⟨#[]⟩, .int .i64 0, .int .i64 0, .string ⟨#[]⟩] 56))
  have B1 := Lib.hid (Blk.new w 56 #[.string ⟨#[]⟩, .int .i64 0, .int .i64 0, .string ⟨#[]⟩])
  obtain ⟨_, _, _, c30⟩ := lst_tail (h.gr G1.out).blk
  rw [hfd] at c30
  simp only at HBE
  rw [hcl] at HBE
  unfold ver at HBE
  clear hR hcl hA hB
  cases hf : firstN 0 B with
  | none =>
    have HX := Lib.hid (show getN B key s = none by unfold getN; rw [hf])
    rw [hf] at HBE
    unfold linkF lnk at HBE
    simp only at HBE
    clear hf st full h
    go_enter Tryz.func26, Tryz.ntmps26
    go_wp2_with (first
      | (go_at_call 60; go_must (refine (HBE.out _ G1.out).mono ?_); rintro e w3 ⟨rfl, g3⟩
         have G3 := Lib.hid (G1.out.trans g3)
         have B3 := Lib.hid (B1.out.gr g3)
         have P3 := Lib.hid (Blk.of2a (w := w3) (cs := (rowV (fun _ => (0, 0)) 12).toArray) (t := 122) (o := .cells #[.int .i64 0, .int .i64 0] 121) (Gr.refl _))
         have N3 := Lib.hid (Blk.of2b (w := w3) (o := .cells (rowV (fun _ => (0, 0)) 12).toArray 122) (cs := #[.int .i64 0, .int .i64 0]) (t := 121) (Gr.refl _)))
      | ((with_reducible show Go.wpList _ _ _ (Oper.mk _ (Op.store 122 _ _) _ _ _ _ :: _) _ _); go_must (refine wp_store_row rfl _ _ _ rfl rfl (cs' := rowV R 12) rfl P3.out (n := 24) (by kernel_rfl) (rowV_len _ 12) (rowV_len _ 12) (rowV_one _ 12) ?_); intro w4 P4 k4
         have hw3 := G3.out.size
         have hbx := B3.out.lt
         have G4 := Lib.hid ((G3.out.trans ((Gr.alloc w3 (.cells (rowV (fun _ => (0, 0)) 12).toArray 122)).trans (Gr.alloc _ (.cells #[.int .i64 0, .int .i64 0] 121)))).grown k4 (fun k e => by cases e; exact hw3))
         have N4 := Lib.hid (N3.out.grown k4 (by simp))
         have B4 := Lib.hid (((B3.out.alloc (.cells (rowV (fun _ => (0, 0)) 12).toArray 122)).alloc (.cells #[.int .i64 0, .int .i64 0] 121)).grown k4 (by simp; omega))
         clear k4 P4)
      | ((with_reducible show Go.wpList _ _ _ (Oper.mk _ (Op.store 121 _ _) _ _ _ _ :: _) _ _); go_must (refine wp_store_row rfl _ _ _ rfl rfl (cs' := [.int .i64 0, .int .i64 0]) rfl N4.out (n := 2) (by kernel_rfl) rfl rfl (fun v hv => by simp at hv; rcases hv with rfl | rfl <;> rfl) ?_); intro w5 N5 k5
         have G5 := Lib.hid (G4.out.grown k5 (fun k e => by cases e; omega))
         have B5 := Lib.hid (B4.out.grown k5 (by simp; omega))
         obtain ⟨n0, n1, _, _⟩ := N5.two4
         obtain ⟨d0, d1, d2, d3, e0, e1, e2, e3⟩ := B5.out.four
         clear k5 N5)
      | fail)
    refine bodyPost_ret (v := ceO none) (by unfold ceO zeC; simp [results, Tryz.results26, go_sem, d0, d1, d2, d3]; try rfl) rfl ⟨by rw [HX.out], ?_⟩
    have hk : w.heap.size ≤ w.heap.size := Nat.le_refl _
    exact (((G5.out.setCell hk _).setCell hk _).setCell hk _).setCell hk _
  | some x =>
    obtain ⟨a1, b1, eB, _, _⟩ := firstN_some hf
    have hN : A ++ B = (A ++ a1) ++ x :: b1 := by rw [eB]; simp
    have hxm : x ∈ A ++ B := by rw [hN]; simp
    obtain ⟨n1, _⟩ := st.node x hxm
    have hs14 := (nd_size n1).1
    have hbl := nodeB_len x.t (fun k => linkF (firstN k b1)) x.c
    have HLD := Lib.hid (fun w' (hg' : Gr w w') => lload_any w' S g gl p L (x.off, x.size) _ (h.gr hg') (st.ld _ x b1 hN) (by omega))
    have HCE := Lib.hid (fun b cap w' hc hcm hb => cell_any b 0 cap _ x.t (fun k => linkF (firstN k b1)) x.c w' n1.t1 n1.t2 n1.ok n1.vl rfl hc hcm hb)
    have hxz : ((x.size : Int) == 0) = false := by rw [beq_eq_false_iff_ne]; omega
    have HX := Lib.hid (show getN B key s = if 0 ≤ s ∧ x.c.key = key then some x.c else none by unfold getN; rw [hf])
    rw [hf] at HBE
    have hlk : linkF (some x) = (x.off, x.size) := rfl
    rw [hlk] at HBE
    unfold lnk at HLD HBE
    unfold ceV at HCE
    simp only at HLD HCE HBE
    generalize nodeB x.t (fun k => linkF (firstN k b1)) x.c = bb at *
    clear hf eB hN hxm n1 hbl hlk st full h
    by_cases hs0 : s < 0
    · have HX2 := Lib.hid (show getN B key s = none by rw [HX.out, if_neg (fun e => by omega)])
      go_enter Tryz.func26, Tryz.ntmps26
      go_wp2_with (first
        | (go_at_call 60; go_must (refine (HBE.out _ G1.out).mono ?_); rintro e w3 ⟨rfl, g3⟩
           have G3 := Lib.hid (G1.out.trans g3)
           have B3 := Lib.hid (B1.out.gr g3)
           have P3 := Lib.hid (Blk.of2a (w := w3) (cs := (rowV (fun _ => (0, 0)) 12).toArray) (t := 122) (o := .cells #[.int .i64 0, .int .i64 0] 121) (Gr.refl _))
           have N3 := Lib.hid (Blk.of2b (w := w3) (o := .cells (rowV (fun _ => (0, 0)) 12).toArray 122) (cs := #[.int .i64 0, .int .i64 0]) (t := 121) (Gr.refl _)))
        | ((with_reducible show Go.wpList _ _ _ (Oper.mk _ (Op.store 122 _ _) _ _ _ _ :: _) _ _); go_must (refine wp_store_row rfl _ _ _ rfl rfl (cs' := rowV R 12) rfl P3.out (n := 24) (by kernel_rfl) (rowV_len _ 12) (rowV_len _ 12) (rowV_one _ 12) ?_); intro w4 P4 k4
           have hw3 := G3.out.size
           have hbx := B3.out.lt
           have G4 := Lib.hid ((G3.out.trans ((Gr.alloc w3 (.cells (rowV (fun _ => (0, 0)) 12).toArray 122)).trans (Gr.alloc _ (.cells #[.int .i64 0, .int .i64 0] 121)))).grown k4 (fun k e => by cases e; exact hw3))
           have N4 := Lib.hid (N3.out.grown k4 (by simp))
           have B4 := Lib.hid (((B3.out.alloc (.cells (rowV (fun _ => (0, 0)) 12).toArray 122)).alloc (.cells #[.int .i64 0, .int .i64 0] 121)).grown k4 (by simp; omega))
           clear k4 P4)
        | ((with_reducible show Go.wpList _ _ _ (Oper.mk _ (Op.store 121 _ _) _ _ _ _ :: _) _ _); go_must (refine wp_store_row rfl _ _ _ rfl rfl (cs' := [.int .i64 (x.off : Int), .int .i64 (x.size : Int)]) rfl N4.out (n := 2) (by kernel_rfl) rfl rfl (fun v hv => by simp at hv; rcases hv with rfl | rfl <;> rfl) ?_); intro w5 N5 k5
           have G5 := Lib.hid (G4.out.grown k5 (fun k e => by cases e; omega))
           have B5 := Lib.hid (B4.out.grown k5 (by simp; omega))
           obtain ⟨n0, n1, _, _⟩ := N5.two4
           obtain ⟨d0, d1, d2, d3, e0, e1, e2, e3⟩ := B5.out.four
           clear k5 N5)
        | fail)
      refine bodyPost_ret (v := ceO none) (by unfold ceO zeC; simp [results, Tryz.results26, go_sem, d0, d1, d2, d3]; try rfl) rfl ⟨by rw [HX2.out], ?_⟩
      have hk : w.heap.size ≤ w.heap.size := Nat.le_refl _
      exact (((G5.out.setCell hk _).setCell hk _).setCell hk _).setCell hk _
    · have hs1 : 0 ≤ s := by omega
      by_cases hk : x.c.key = key
      · have HX2 := Lib.hid (show getN B key s = some x.c by rw [HX.out, if_pos ⟨hs1, hk⟩])
        subst hk
        go_enter Tryz.func26, Tryz.ntmps26
        go_wp2_with (first
          | (go_at_call 60; go_must (refine (HBE.out _ G1.out).mono ?_); rintro e w3 ⟨rfl, g3⟩
             have G3 := Lib.hid (G1.out.trans g3)
             have B3 := Lib.hid (B1.out.gr g3)
             have P3 := Lib.hid (Blk.of2a (w := w3) (cs := (rowV (fun _ => (0, 0)) 12).toArray) (t := 122) (o := .cells #[.int .i64 0, .int .i64 0] 121) (Gr.refl _))
             have N3 := Lib.hid (Blk.of2b (w := w3) (o := .cells (rowV (fun _ => (0, 0)) 12).toArray 122) (cs := #[.int .i64 0, .int .i64 0]) (t := 121) (Gr.refl _)))
          | ((with_reducible show Go.wpList _ _ _ (Oper.mk _ (Op.store 122 _ _) _ _ _ _ :: _) _ _); go_must (refine wp_store_row rfl _ _ _ rfl rfl (cs' := rowV R 12) rfl P3.out (n := 24) (by kernel_rfl) (rowV_len _ 12) (rowV_len _ 12) (rowV_one _ 12) ?_); intro w4 P4 k4
             have hw3 := G3.out.size
             have hbx := B3.out.lt
             have G4 := Lib.hid ((G3.out.trans ((Gr.alloc w3 (.cells (rowV (fun _ => (0, 0)) 12).toArray 122)).trans (Gr.alloc _ (.cells #[.int .i64 0, .int .i64 0] 121)))).grown k4 (fun k e => by cases e; exact hw3))
             have N4 := Lib.hid (N3.out.grown k4 (by simp))
             have B4 := Lib.hid (((B3.out.alloc (.cells (rowV (fun _ => (0, 0)) 12).toArray 122)).alloc (.cells #[.int .i64 0, .int .i64 0] 121)).grown k4 (by simp; omega))
             clear k4 P4)
          | ((with_reducible show Go.wpList _ _ _ (Oper.mk _ (Op.store 121 _ _) _ _ _ _ :: _) _ _); go_must (refine wp_store_row rfl _ _ _ rfl rfl (cs' := [.int .i64 (x.off : Int), .int .i64 (x.size : Int)]) rfl N4.out (n := 2) (by kernel_rfl) rfl rfl (fun v hv => by simp at hv; rcases hv with rfl | rfl <;> rfl) ?_); intro w5 N5 k5
             have G5 := Lib.hid (G4.out.grown k5 (fun k e => by cases e; omega))
             have B5 := Lib.hid (B4.out.grown k5 (by simp; omega))
             obtain ⟨n0, n1, _, _⟩ := N5.two4
             obtain ⟨d0, d1, d2, d3, e0, e1, e2, e3⟩ := B5.out.four
             clear k5 N5)
          | (go_at_call 76; go_must (refine (HLD.out _ G5.out).mono ?_); rintro e w6 ⟨v, rfl, g6, sl, rfl, gb, cap, rfl, hc1, hc2, hb⟩; have HBY := Lib.hid hb; clear hb)
          | (go_at_call 77; go_must (refine (HCE.out _ _ _ hc1 hc2 HBY.out).mono ?_); rintro e w7 ⟨rfl, g7⟩
             have G7 := Lib.hid ((G5.out.trans (g6.trans g7)).trans (Gr.alloc w7 (.cells #[.string (str x.c.key), .int .i64 (x.c.seq : Int), .int .i64 (x.c.kind : Int), .string (str x.c.val)] 56)))
             have B7 := Lib.hid ((B5.out.gr (g6.trans g7)).alloc (.cells #[.string (str x.c.key), .int .i64 (x.c.seq : Int), .int .i64 (x.c.kind : Int), .string (str x.c.val)] 56))
             have hbw7 : w.heap.size < w7.heap.size := (B5.out.gr (g6.trans g7)).lt
             obtain ⟨x0, x1, x2, x3, y0, y1, y2, y3⟩ := B7.out.four)
          | ((with_reducible show Go.wpList _ _ _ (Oper.mk _ (Op.store 56 (Operand.tmp 6) _) _ _ _ _ :: _) _ _); go_must (refine wp_store_row rfl _ _ _ rfl rfl (cs' := [.string (str x.c.key), .int .i64 (x.c.seq : Int), .int .i64 (x.c.kind : Int), .string (str x.c.val)]) rfl B7.out (n := 4) (by kernel_rfl) rfl rfl (fun v hv => by simp at hv; first | (rcases hv with rfl | rfl | rfl | rfl <;> rfl) | (rcases hv with rfl | rfl <;> rfl)) ?_); intro w8 B8 k8
             have G8 := Lib.hid (G7.out.grown k8 (fun k e => by cases e; exact Nat.le_refl _))
             obtain ⟨z0, z1, z2, z3, _⟩ := B8.four
             clear k8 B8)
          | fail)
        refine bodyPost_ret (v := ceO (some x.c)) (by unfold ceO ceV; simp [results, Tryz.results26, go_sem, z0, z1, z2, z3]; try rfl) rfl ⟨by rw [HX2.out], G8.out⟩
      · have HX2 := Lib.hid (show getN B key s = none by rw [HX.out, if_neg (fun e => hk e.2)])
        have b1 : (x.c.key == key) = false := by rw [beq_eq_false_iff_ne]; exact hk
        have b2 : (x.c.key != key) = true := by rw [bne_iff_ne]; exact hk
        clear hk
        go_enter Tryz.func26, Tryz.ntmps26
        go_wp2_with (first
          | (go_at_call 60; go_must (refine (HBE.out _ G1.out).mono ?_); rintro e w3 ⟨rfl, g3⟩
             have G3 := Lib.hid (G1.out.trans g3)
             have B3 := Lib.hid (B1.out.gr g3)
             have P3 := Lib.hid (Blk.of2a (w := w3) (cs := (rowV (fun _ => (0, 0)) 12).toArray) (t := 122) (o := .cells #[.int .i64 0, .int .i64 0] 121) (Gr.refl _))
             have N3 := Lib.hid (Blk.of2b (w := w3) (o := .cells (rowV (fun _ => (0, 0)) 12).toArray 122) (cs := #[.int .i64 0, .int .i64 0]) (t := 121) (Gr.refl _)))
          | ((with_reducible show Go.wpList _ _ _ (Oper.mk _ (Op.store 122 _ _) _ _ _ _ :: _) _ _); go_must (refine wp_store_row rfl _ _ _ rfl rfl (cs' := rowV R 12) rfl P3.out (n := 24) (by kernel_rfl) (rowV_len _ 12) (rowV_len _ 12) (rowV_one _ 12) ?_); intro w4 P4 k4
             have hw3 := G3.out.size
             have hbx := B3.out.lt
             have G4 := Lib.hid ((G3.out.trans ((Gr.alloc w3 (.cells (rowV (fun _ => (0, 0)) 12).toArray 122)).trans (Gr.alloc _ (.cells #[.int .i64 0, .int .i64 0] 121)))).grown k4 (fun k e => by cases e; exact hw3))
             have N4 := Lib.hid (N3.out.grown k4 (by simp))
             have B4 := Lib.hid (((B3.out.alloc (.cells (rowV (fun _ => (0, 0)) 12).toArray 122)).alloc (.cells #[.int .i64 0, .int .i64 0] 121)).grown k4 (by simp; omega))
             clear k4 P4)
          | ((with_reducible show Go.wpList _ _ _ (Oper.mk _ (Op.store 121 _ _) _ _ _ _ :: _) _ _); go_must (refine wp_store_row rfl _ _ _ rfl rfl (cs' := [.int .i64 (x.off : Int), .int .i64 (x.size : Int)]) rfl N4.out (n := 2) (by kernel_rfl) rfl rfl (fun v hv => by simp at hv; rcases hv with rfl | rfl <;> rfl) ?_); intro w5 N5 k5
             have G5 := Lib.hid (G4.out.grown k5 (fun k e => by cases e; omega))
             have B5 := Lib.hid (B4.out.grown k5 (by simp; omega))
             obtain ⟨n0, n1, _, _⟩ := N5.two4
             obtain ⟨d0, d1, d2, d3, e0, e1, e2, e3⟩ := B5.out.four
             clear k5 N5)
          | (go_at_call 76; go_must (refine (HLD.out _ G5.out).mono ?_); rintro e w6 ⟨v, rfl, g6, sl, rfl, gb, cap, rfl, hc1, hc2, hb⟩; have HBY := Lib.hid hb; clear hb)
          | (go_at_call 77; go_must (refine (HCE.out _ _ _ hc1 hc2 HBY.out).mono ?_); rintro e w7 ⟨rfl, g7⟩
             have G7 := Lib.hid ((G5.out.trans (g6.trans g7)).trans (Gr.alloc w7 (.cells #[.string (str x.c.key), .int .i64 (x.c.seq : Int), .int .i64 (x.c.kind : Int), .string (str x.c.val)] 56)))
             have B7 := Lib.hid ((B5.out.gr (g6.trans g7)).alloc (.cells #[.string (str x.c.key), .int .i64 (x.c.seq : Int), .int .i64 (x.c.kind : Int), .string (str x.c.val)] 56))
             have hbw7 : w.heap.size < w7.heap.size := (B5.out.gr (g6.trans g7)).lt
             obtain ⟨x0, x1, x2, x3, y0, y1, y2, y3⟩ := B7.out.four)
          | ((with_reducible show Go.wpList _ _ _ (Oper.mk _ (Op.store 56 (Operand.tmp 6) _) _ _ _ _ :: _) _ _); go_must (refine wp_store_row rfl _ _ _ rfl rfl (cs' := [.string ⟨#[]⟩, .int .i64 0, .int .i64 0, .string ⟨#[]⟩]) rfl B7.out (n := 4) (by kernel_rfl) rfl rfl (fun v hv => by simp at hv; first | (rcases hv with rfl | rfl | rfl | rfl <;> rfl) | (rcases hv with rfl | rfl <;> rfl)) ?_); intro w8 B8 k8
             have G8 := Lib.hid (G7.out.grown k8 (fun k e => by cases e; exact Nat.le_refl _))
             obtain ⟨z0, z1, z2, z3, _⟩ := B8.four
             clear k8 B8)
          | fail)
        refine bodyPost_ret (v := ceO none) (by unfold ceO zeC; simp [results, Tryz.results26, go_sem, z0, z1, z2, z3]; try rfl) rfl ⟨by rw [HX2.out], G8.out⟩
end Go.Proofs.YtpaogoehgkoaeaaGreatDoor
/- Layer 11 (skip): New; how many, how much; freed. -/
namespace Go.Proofs.YtpaogoehgkoaeaaGreatDoor
set_option linter.unusedVariables false
set_option linter.unusedSimpArgs false
open Go.RowKit Ikey Varint
def newL (r : Nat) : Ls := ⟨r, 0, fun _ => (0, 0), 0, 0, false, false⟩
set_option maxRecDepth 100000 in
set_option maxHeartbeats 1000000 in
theorem New_list (w : World) (S : Nat → Prop) (g : Nat) (p p' : PoolF) (r : Nat) (h : PoolAt w S g p) (hp : PoolOk p) (hgen : ∀ i, i < 256 → (landAt p i).gen ≤ 1000000000) (hs : 2048 ≤ p.size) (hm : makeR p = (r, 0, p')) :
    Calls Tryz.prog 16 #[.pointer (some ⟨g, 0, none⟩)] w fun e w' => ∃ gl, e = .returned (.tuple #[.pointer (some ⟨gl, 0, none⟩), .int .i64 0]) ∧ Moved S g p' w w' S ∧ Blk w' gl 124 (lstV g (newL r)) ∧ w.heap.size ≤ gl ∧ ¬ S gl := by
  have HSz := Lib.hid (Size_any w S g p h)
  have HM := Lib.hid (Make_any w S g p h hp hgen)
  rw [hm] at HM
  have hlt := h.lt
  have hsb : decide ((p.size : Int) < 2048) = false := by simp; omega
  have hsI : (2048 : Int) ≤ (p.size : Int) := by omega
  have HLT := Lib.hid hlt
  clear h hp hgen hm hs hlt
  simp only at HM
  go_enter Tryz.func16, Tryz.ntmps16
  go_wp2_with (first
    | (go_at_call 57; go_must (refine HSz.out.mono ?_); rintro e w1 ⟨rfl, rfl⟩)
    | (go_at_call 58; go_must (refine HM.out.mono ?_); rintro e w2 ⟨rfl, m2⟩)
    | fail)
  go_ret2
  refine ⟨w2.heap.size, rfl, m2.gr (Gr.alloc _ _), ?_, m2.chg.size, fun e => by have := HLT.out _ e; have := m2.chg.size; omega⟩
  have := Blk.new w2 124 (lstV g (newL r)).toArray
  exact this
theorem sCount_any (w : World) (g gl : Nat) (L : Ls) (h : Blk w gl 124 (lstV g L)) :
    Calls Tryz.prog 22 #[.pointer (some ⟨gl, 0, none⟩)] w fun e w' => e = .returned (.int .i64 (if L.fd = true then 0 else (L.cnt : Int))) ∧ w = w' := by
  obtain ⟨c0, _, _, c3⟩ := lst_tail h
  cases hd : L.fd with
  | true =>
    rw [hd] at c3
    go_enter Tryz.func22, Tryz.ntmps22
    go_wp2
    go_ret
    exact ⟨rfl, rfl⟩
  | false =>
    rw [hd] at c3
    go_enter Tryz.func22, Tryz.ntmps22
    go_wp2
    go_ret
    exact ⟨rfl, rfl⟩
end Go.Proofs.YtpaogoehgkoaeaaGreatDoor
/- Layer 11 (skip): a list of a law's own, and what its calls tell. -/
namespace Go.Proofs.YtpaogoehgkoaeaaGreatDoor
set_option linter.unusedVariables false
set_option linter.unusedSimpArgs false
open Go.RowKit Ikey Varint
def cellsN (N : List Nd) : List Ce := N.map (·.c)
def aheadC (v : Vr) (c : Ce) : Bool := vless c.vr v
/-- Insert, of a row of cells -/
def insF (C : List Ce) (fz : Bool) (k : List UInt8) (s d : Int) (v : List UInt8) (h : Int) : Nat × List Ce :=
  if chkI fz false k s d v h ≠ 0 then (chkI fz false k s d v h, C)
  else match C.dropWhile (aheadC ⟨k, s, d⟩) with
    | [] => (0, C.takeWhile (aheadC ⟨k, s, d⟩) ++ [⟨k, s.toNat, d.toNat, v⟩])
    | x :: B => if isV x ⟨k, s, d⟩ = true then (8, C) else (0, C.takeWhile (aheadC ⟨k, s, d⟩) ++ ⟨k, s.toNat, d.toNat, v⟩ :: x :: B)
def weighF : List Ce → Nat
  | [] => 0
  | c :: C => (c.key.length + c.val.length + 8) + weighF C
theorem weighF_append : ∀ A B : List Ce, weighF (A ++ B) = weighF A + weighF B
  | [], B => by simp [weighF]
  | a :: A, B => by rw [List.cons_append, weighF, weighF, weighF_append A B]; omega
/-- Get -/
def getC (C : List Ce) (key : List UInt8) (s : Int) : Option Ce :=
  match C.dropWhile (aheadC ⟨key, clampF s, 1⟩) with
  | x :: _ => if 0 ≤ s ∧ x.key = key then some x else none
  | [] => none
theorem take_map (q : Ce → Bool) : ∀ N : List Nd, (cellsN N).takeWhile q = cellsN (N.takeWhile fun x => q x.c)
  | [] => rfl
  | x :: N => by
    unfold cellsN
    rw [List.map_cons, List.takeWhile_cons, List.takeWhile_cons]
    cases h : q x.c with
    | true => simp only [if_true, List.map_cons]; congr 1; exact take_map q N
    | false => simp
theorem drop_map (q : Ce → Bool) : ∀ N : List Nd, (cellsN N).dropWhile q = cellsN (N.dropWhile fun x => q x.c)
  | [] => rfl
  | x :: N => by
    unfold cellsN
    rw [List.map_cons, List.dropWhile_cons, List.dropWhile_cons]
    cases h : q x.c with
    | true => simp only [if_true]; exact drop_map q N
    | false => simp
/-- what comes ahead of a version is a beginning of the nodes -/
theorem split_sorted (v : Vr) : ∀ {N : List Nd}, N.Pairwise Asc → (∀ x ∈ N.takeWhile (fun x => aheadC v x.c), vless x.c.vr v = true) ∧ (∀ x ∈ N.dropWhile (fun x => aheadC v x.c), vless x.c.vr v = false)
  | [], _ => ⟨fun x h => by simp at h, fun x h => by simp at h⟩
  | y :: N, h => by
    rw [List.pairwise_cons] at h
    cases hq : aheadC v y.c with
    | true =>
      obtain ⟨h1, h2⟩ := split_sorted v h.2
      rw [List.takeWhile_cons, List.dropWhile_cons]
      simp only [hq, if_true]
      refine ⟨fun x hx => ?_, h2⟩
      rcases List.mem_cons.1 hx with rfl | hx
      · exact hq
      · exact h1 x hx
    | false =>
      rw [List.takeWhile_cons, List.dropWhile_cons]
      simp only [hq, Bool.false_eq_true, if_false]
      refine ⟨fun x hx => by simp at hx, fun x hx => ?_⟩
      rcases List.mem_cons.1 hx with rfl | hx
      · exact hq
      · cases hx2 : vless x.c.vr v with
        | false => rfl
        | true =>
          have := vless_trans (h.1 x hx) hx2
          unfold aheadC at hq
          rw [this] at hq; cases hq
theorem isV_iff {c : Ce} {v : Vr} : isV c v = true ↔ c.vr = v := by
  unfold isV Ce.vr
  obtain ⟨k, s, d⟩ := v
  simp [and_assoc]
/-- a list of a law's own -/
structure Sl (w0 w : World) (S : Nat → Prop) (g gl : Nat) (p : PoolF) (L : Ls) (N : List Nd) : Prop where
  sk : Sk w S g gl p L
  st : SkSt p L.r L.gen L.hd N
  full : ∀ x ∈ N, x.h = x.t
  cnt : L.cnt = N.length
  wt : L.wt = weighF (cellsN N)
  fd : L.fd = false
  gr : Gr w0 w
  base : ∀ j, S j → w0.heap.size ≤ j
  bl : w0.heap.size ≤ gl
theorem Sl.more {w0 w w' : World} {S : Nat → Prop} {g gl : Nat} {p : PoolF} {L : Ls} {N : List Nd} (h : Sl w0 w S g gl p L N) (k : Gr w w') : Sl w0 w' S g gl p L N :=
  ⟨h.sk.gr k, h.st, h.full, h.cnt, h.wt, h.fd, h.gr.trans k, h.base, h.bl⟩
theorem weigh_le {p : PoolF} {r gen : Nat} {hd : Nat → Nat × Nat} : ∀ {N : List Nd}, (∀ x ∈ N, NdOk x) → weighF (cellsN N) ≤ 1100 * N.length
  | [], _ => by simp [cellsN, weighF]
  | x :: N, h => by
    have h1 := weigh_le (p := p) (r := r) (gen := gen) (hd := hd) (N := N) (fun y hy => h y (List.mem_cons_of_mem _ hy))
    have h2 := nd_size (h x List.mem_cons_self)
    have h3 := (h x List.mem_cons_self).vl
    unfold cellsN at h1 ⊢
    rw [List.map_cons, weighF, List.length_cons]
    omega
/-- what a list's call does to a law's world -/
structure Did (S : Nat → Prop) (gl : Nat) (w w' : World) (S' : Nat → Prop) : Prop where
  chg : Chg (fun j => S j ∨ j = gl) w w'
  sub : ∀ j, S' j → S j ∨ w.heap.size ≤ j
theorem Did.of_gr {S : Nat → Prop} {gl : Nat} {w w' : World} (h : Gr w w') : Did S gl w w' S := ⟨h.chg, fun _ hj => .inl hj⟩
theorem Did.gr {S S' : Nat → Prop} {gl : Nat} {w0 w w' : World} (h : Did S gl w w' S') (k : Gr w0 w) (hb : ∀ j, S j → w0.heap.size ≤ j) (hl : w0.heap.size ≤ gl) : Gr w0 w' :=
  h.chg.gr k (fun j hj => by
    rcases hj with hj | rfl
    · exact hb j hj
    · exact hl)
theorem Insert_sl {w0 w : World} {S : Nat → Prop} {g gl : Nat} {p : PoolF} {L : Ls} {N : List Nd} (h : Sl w0 w S g gl p L N) (k : List UInt8) (s d : Int) (v : List UInt8) (t : Int) (hv : v.length ≤ 9223372036854775807) (hi : 1 ≤ countF p) (hN : N.length ≤ 1000) :
    Calls Tryz.prog 18 #[.pointer (some ⟨gl, 0, none⟩), celV k s d v, .int .i64 t] w fun e w' => e = .returned (.int .i64 ((insF (cellsN N) L.fz k s d v t).1 : Int)) ∧
      ∃ p' S' L' N', Sl w0 w' S' g gl p' L' N' ∧ cellsN N' = (insF (cellsN N) L.fz k s d v t).2 ∧ N'.length ≤ N.length + 1 ∧ (∀ x ∈ N, x ∈ N') ∧ L'.fz = L.fz ∧ L'.r = L.r ∧ Kp L.r p p' ∧ countF p ≤ countF p' + 1 ∧ Did S gl w w' S' := by
  by_cases hc : chkI L.fz false k s d v t = 0
  case neg =>
    have hI : insF (cellsN N) L.fz k s d v t = (chkI L.fz false k s d v t, cellsN N) := by unfold insF; rw [if_pos hc]
    rw [hI]
    refine (Insert_no w g gl L h.sk.blk k s d v t hv _ (by rw [h.fd]) hc).mono ?_
    rintro e w' ⟨h1, h2⟩
    exact ⟨h1, p, S, L, N, h.more h2, rfl, Nat.le_succ _, fun x hx => hx, rfl, rfl, Kp.refl _ _, Nat.le_succ _, Did.of_gr h2⟩
  case pos =>
    have hck := hc
    unfold chkI at hck
    have hfz : (L.fz || false) = false := by
      cases hb : (L.fz || false) with
      | false => rfl
      | true => rw [hb] at hck; simp at hck
    rw [hfz, if_neg (by decide)] at hck
    have hnb : ¬ (okV k s d = false ∨ t < 1 ∨ 12 < t) := fun e => by rw [if_pos e] at hck; cases hck
    rw [if_neg hnb] at hck
    have hv1 : v.length ≤ 1000 := by
      by_cases e : 1000 < v.length
      · rw [if_pos e] at hck; cases hck
      · omega
    have hok : okV k s d = true := by
      cases e : okV k s d with
      | true => rfl
      | false => exact absurd (.inl e) hnb
    have ht1 : 1 ≤ t := by have : ¬ t < 1 := fun e => hnb (.inr (.inl e)); omega
    have ht2 : t ≤ 12 := by have : ¬ 12 < t := fun e => hnb (.inr (.inr e)); omega
    obtain ⟨o1, o2, o3, o4, o5⟩ := okV_of hok
    have es : s = ((s.toNat : Nat) : Int) := by omega
    have ed : d = ((d.toNat : Nat) : Int) := by omega
    have et : t = ((t.toNat : Nat) : Int) := by omega
    have hvr : (⟨k, s.toNat, d.toNat, v⟩ : Ce).vr = ⟨k, s, d⟩ := by unfold Ce.vr; simp only; rw [← es, ← ed]
    obtain ⟨hA, hB⟩ := split_sorted ⟨k, s, d⟩ h.st.sorted
    have hsp : N = N.takeWhile (fun x => aheadC ⟨k, s, d⟩ x.c) ++ N.dropWhile (fun x => aheadC ⟨k, s, d⟩ x.c) := (List.takeWhile_append_dropWhile).symm
    have htk := take_map (aheadC ⟨k, s, d⟩) N
    have hdr := drop_map (aheadC ⟨k, s, d⟩) N
    generalize N.takeWhile (fun x => aheadC ⟨k, s, d⟩ x.c) = A at *
    generalize N.dropWhile (fun x => aheadC ⟨k, s, d⟩ x.c) = B at *
    have hck2 : chkI L.fz L.fd k ((s.toNat : Nat) : Int) ((d.toNat : Nat) : Int) v t = 0 := by rw [← es, ← ed, h.fd]; exact hc
    have hwt : L.wt ≤ 1000000000 := by
      have := weigh_le (p := p) (r := 0) (gen := 0) (hd := L.hd) (fun x hx => (h.st.node x hx).1)
      rw [h.wt]; omega
    have hcn : L.cnt ≤ 1000000 := by rw [h.cnt]; omega
    have stN := h.st
    have fullN := h.full
    rw [hsp] at stN fullN
    have ok : ∀ (hBs : ∀ x ∈ B, vless (⟨k, s.toNat, d.toNat, v⟩ : Ce).vr x.c.vr = true) (hI : insF (cellsN N) L.fz k s d v t = (0, cellsN A ++ ⟨k, s.toNat, d.toNat, v⟩ :: cellsN B)),
        Calls Tryz.prog 18 #[.pointer (some ⟨gl, 0, none⟩), celV k s d v, .int .i64 t] w fun e w' => e = .returned (.int .i64 ((insF (cellsN N) L.fz k s d v t).1 : Int)) ∧
      ∃ p' S' L' N', Sl w0 w' S' g gl p' L' N' ∧ cellsN N' = (insF (cellsN N) L.fz k s d v t).2 ∧ N'.length ≤ N.length + 1 ∧ (∀ x ∈ N, x ∈ N') ∧ L'.fz = L.fz ∧ L'.r = L.r ∧ Kp L.r p p' ∧ countF p ≤ countF p' + 1 ∧ Did S gl w w' S' := by
      intro hBs hI
      rw [hI]
      have := Insert_ok w S g gl p L A B ⟨k, s.toNat, d.toNat, v⟩ t.toNat h.sk stN fullN (by simpa using hfz) h.fd (by omega) (by omega) (by rw [← es, ← ed]; exact hok) hv1 (fun x hx => by rw [hvr]; exact hA x hx) hBs hi hcn hwt
      simp only at this
      rw [← es, ← ed, ← et] at this
      refine this.mono ?_
      rintro e w' ⟨h1, p', S', hd', o, s1, s2, s3, s4, s5, s6⟩
      have did : Did S gl w w' S' := ⟨s5, s6⟩
      refine ⟨h1, p', S', _, _, ⟨s1, s2, fun x hx => ?_, ?_, ?_, rfl, did.gr h.gr h.base h.bl, fun j hj => ?_, h.bl⟩, by simp [cellsN], by rw [hsp]; simp; omega, fun x hx => ?_, (by simpa using hfz.symm), rfl, s3, s4, did⟩
      · rw [List.mem_append, List.mem_cons] at hx
        rcases hx with hx | rfl | hx
        · exact fullN x (List.mem_append_left _ hx)
        · rfl
        · exact fullN x (List.mem_append_right _ hx)
      · show L.cnt + 1 = _
        rw [h.cnt, hsp]; simp; omega
      · show L.wt + _ = _
        rw [h.wt, hsp]
        simp only [cellsN, List.map_append, List.map_cons, weighF_append, weighF]
        omega
      · rcases s6 j hj with h2 | h2
        · exact h.base j h2
        · exact Nat.le_trans h.gr.size h2
      · rw [hsp] at hx
        rcases List.mem_append.1 hx with hx | hx
        · exact List.mem_append_left _ hx
        · exact List.mem_append_right _ (List.mem_cons_of_mem _ hx)
    cases B with
    | nil =>
      refine ok (fun x hx => by simp at hx) ?_
      unfold insF
      rw [if_neg (fun e => e hc), hdr, htk]
      rfl
    | cons x B =>
      by_cases hx : isV x.c ⟨k, s, d⟩ = true
      · have hI : insF (cellsN N) L.fz k s d v t = (8, cellsN N) := by
          unfold insF
          rw [if_neg (fun e => e hc), hdr]
          show (if isV x.c ⟨k, s, d⟩ = true then _ else _) = _
          rw [if_pos hx]
        rw [hI]
        have := Insert_there w S g gl p L A B x ⟨k, s.toNat, d.toNat, v⟩ t h.sk stN fullN hck2 hv1 (fun x hx => by rw [hvr]; exact hA x hx) (fun x hx => by rw [hvr]; exact hB x hx) (by rw [hvr]; exact hx)
        simp only at this
        rw [← es, ← ed] at this
        refine this.mono ?_
        rintro e w' ⟨h1, h2⟩
        exact ⟨h1, p, S, L, N, h.more h2, rfl, Nat.le_succ _, fun x hx => hx, rfl, rfl, Kp.refl _ _, Nat.le_succ _, Did.of_gr h2⟩
      · have hxl : vless (⟨k, s, d⟩ : Vr) x.c.vr = true := by
          have h1 : (⟨k, s, d⟩ : Vr) ≠ x.c.vr := fun e => hx (isV_iff.2 e.symm)
          rw [vless_tri h1, hB x List.mem_cons_self]
          rfl
        refine ok (fun y hy => ?_) ?_
        · rw [hvr]
          rcases List.mem_cons.1 hy with rfl | hy
          · exact hxl
          · have hs := h.st.sorted
            rw [hsp] at hs
            exact vless_trans hxl ((pair_at hs).2 y hy)
        · unfold insF
          rw [if_neg (fun e => e hc), hdr, htk]
          show (if isV x.c ⟨k, s, d⟩ = true then _ else _) = _
          rw [if_neg hx]
          rfl
theorem firstN_zero {B : List Nd} (h : ∀ x ∈ B, 0 < x.h) : firstN 0 B = B.head? := by
  cases B with
  | nil => rfl
  | cons x B => rw [firstN_cons, if_pos (h x List.mem_cons_self)]; rfl
theorem Get_sl {w0 w : World} {S : Nat → Prop} {g gl : Nat} {p : PoolF} {L : Ls} {N : List Nd} (h : Sl w0 w S g gl p L N) (key : List UInt8) (s : Int) :
    Calls Tryz.prog 26 #[.pointer (some ⟨gl, 0, none⟩), .string (str key), .int .i64 s] w fun e w' => e = .returned (ceO (getC (cellsN N) key s)) ∧ Gr w w' := by
  obtain ⟨hA, hB⟩ := split_sorted ⟨key, clampF s, 1⟩ h.st.sorted
  have hsp : N = N.takeWhile (fun x => aheadC ⟨key, clampF s, 1⟩ x.c) ++ N.dropWhile (fun x => aheadC ⟨key, clampF s, 1⟩ x.c) := (List.takeWhile_append_dropWhile).symm
  have hdr := drop_map (aheadC ⟨key, clampF s, 1⟩) N
  generalize N.takeWhile (fun x => aheadC ⟨key, clampF s, 1⟩ x.c) = A at *
  generalize N.dropWhile (fun x => aheadC ⟨key, clampF s, 1⟩ x.c) = B at *
  have stN := h.st
  have fullN := h.full
  rw [hsp] at stN fullN
  have := sGet_any w S g gl p L A B key s h.sk stN fullN h.fd hA hB
  have e : getN B key s = getC (cellsN N) key s := by
    unfold getN getC
    rw [hdr, firstN_zero (fun x hx => by
      have h1 := fullN x (List.mem_append_right _ hx)
      have h2 := (stN.node x (List.mem_append_right _ hx)).1.t1
      omega)]
    cases B <;> rfl
  rw [e] at this
  exact this
end Go.Proofs.YtpaogoehgkoaeaaGreatDoor
/- A region that draws its order, in which rows are made and get their contents, wherever their making and their stores stand. No program is in sight here. -/
namespace Go.Proofs.YtpaogoehgkoaeaaGreatDoor
set_option linter.unusedVariables false
set_option linter.unusedSimpArgs false
open Go.RowKit
/-- the rows that have been made: the block of each -/
abbrev NG := Nat → Option Nat
structure NLe (Z F : Nat → Obj) (s s' : World × NG) : Prop where
  os : s'.1.os = s.1.os
  tape : s'.1.tape = s.1.tape
  output : s'.1.output = s.1.output
  size : s.1.heap.size ≤ s'.1.heap.size
  ext : ∀ i b, s.2 i = some b → s'.2 i = some b
  new : ∀ i b, s'.2 i = some b → s.2 i = some b ∨ s.1.heap.size ≤ b
  old : ∀ j, j < s.1.heap.size → (∀ i, s'.2 i ≠ some j) → s'.1.heap[j]? = s.1.heap[j]?
  held : ∀ i b, s.2 i = some b → s'.1.heap[b]? = s.1.heap[b]? ∨ s'.1.heap[b]? = some (F i)
  made : ∀ i b, s'.2 i = some b → s.2 i = none → s'.1.heap[b]? = some (Z i) ∨ s'.1.heap[b]? = some (F i)
  inj : (∀ i k b, s.2 i = some b → s.2 k = some b → i = k) → ∀ i k b, s'.2 i = some b → s'.2 k = some b → i = k
section
variable {Z F : Nat → Obj} {W w w' : World} {g : NG}
theorem NLe.refl (s : World × NG) : NLe Z F s s := ⟨rfl, rfl, rfl, Nat.le_refl _, fun _ _ h => h, fun _ _ h => .inl h, fun _ _ _ => rfl, fun _ _ _ => .inl rfl, fun i b h k => absurd (h.symm.trans k) (by simp), fun h => h⟩
theorem NLe.trans (a b c : World × NG) (h : NLe Z F a b) (k : NLe Z F b c) : NLe Z F a c := by
  refine ⟨k.os.trans h.os, k.tape.trans h.tape, k.output.trans h.output, Nat.le_trans h.size k.size, fun i x e => k.ext i x (h.ext i x e), fun i x e => ?_, fun j hj e => ?_, fun i x e => ?_, fun i x e n => ?_, fun e => k.inj (h.inj e)⟩
  · rcases k.new i x e with e1 | e1
    · exact h.new i x e1
    · exact .inr (Nat.le_trans h.size e1)
  · exact (k.old j (Nat.lt_of_lt_of_le hj h.size) e).trans (h.old j hj (fun i e2 => e i (k.ext i j e2)))
  · rcases k.held i x (h.ext i x e) with e1 | e1
    · rcases h.held i x e with e2 | e2
      · exact .inl (e1.trans e2)
      · exact .inr (e1.trans e2)
    · exact .inr e1
  · cases hb : b.2 i with
    | none => exact k.made i x e hb
    | some y =>
      have := k.ext i y hb
      rw [e] at this
      cases this
      rcases k.held i x hb with e1 | e1
      · rcases h.made i x hb n with e2 | e2
        · exact .inl (e1.trans e2)
        · exact .inr (e1.trans e2)
      · exact .inr e1
/-- where the rows' making stands -/
def PreN (al : Nat → Nat) (k : Nat) (s : World × NG) : Prop := ∀ i, al i = k → s.2 i = none
theorem PreN.start {al : Nat → Nat} (k : Nat) : PreN al k (w, fun _ => none) := fun _ _ => rfl
theorem PreN.same {al : Nat → Nat} {i : Nat} : ∀ k, k ≠ i → PreN al k (w, g) → PreN al k (w', g) := fun _ _ h => h
theorem PreN.upd {al : Nat → Nat} {i b : Nat} : ∀ k, k ≠ al i → PreN al k (w, g) → PreN al k (w', fun j => if j = i then some b else g j) := fun k hk h j hj => by
  show (if j = i then some b else g j) = none
  rw [if_neg (fun e => hk (by rw [← e]; exact hj.symm))]
  exact h j hj
def AlN (i : Nat) : Value → World × NG → Prop := fun v s => ∃ b, v = .pointer (some ⟨b, 0, none⟩) ∧ s.2 i = some b
theorem AlN.stable (i : Nat) : StableG (NLe Z F) (AlN i) := fun _ _ _ ⟨b, e, h⟩ k => ⟨b, e, k.ext i b h⟩
def StN (F : Nat → Obj) (i : Nat) : Value → World × NG → Prop := fun _ s => ∃ b, s.2 i = some b ∧ s.1.heap[b]? = some (F i)
theorem StN.stable (i : Nat) : StableG (NLe Z F) (StN F i) := fun _ s1 s2 ⟨b, e, h⟩ k => ⟨b, k.ext i b e, by
  rcases k.held i b e with h1 | h1
  · exact h1.trans h
  · exact h1⟩
/-- on the way from W -/
theorem NLe.gr0 (h : NLe Z F (W, fun _ => none) (w, g)) : Gr W w := ⟨h.os, h.tape, h.output, h.size, fun j hj => h.old j hj (fun i e => by
  rcases h.new i j e with e1 | e1
  · cases e1
  · exact absurd hj (Nat.not_lt.2 e1))⟩
theorem NLe.row (h : NLe Z F (W, fun _ => none) (w, g)) {i b : Nat} (hb : g i = some b) : W.heap.size ≤ b ∧ b < w.heap.size ∧ (w.heap[b]? = some (Z i) ∨ w.heap[b]? = some (F i)) := by
  have h1 := h.made i b hb rfl
  refine ⟨?_, ?_, h1⟩
  · rcases h.new i b hb with e | e
    · cases e
    · exact e
  · rcases h1 with e | e <;> exact (Array.getElem?_eq_some_iff.1 e).1
theorem NLe.grow (h : NLe Z F (W, fun _ => none) (w, g)) (k : Gr w w') : NLe Z F (w, g) (w', g) :=
  ⟨k.os, k.tape, k.output, k.size, fun _ _ e => e, fun _ _ e => .inl e, fun j hj _ => k.block j hj, fun i b e => .inl (k.block b (h.row e).2.1), fun i b e n => absurd ((show g i = some b from e).symm.trans n) (by simp), fun e => e⟩
theorem NLe.alloc (h : NLe Z F (W, fun _ => none) (w, g)) {i : Nat} (hi : g i = none) : NLe Z F (w, g) (w.alloc (Z i), fun j => if j = i then some w.heap.size else g j) := by
  have k := Gr.alloc w (Z i)
  refine ⟨k.os, k.tape, k.output, k.size, fun j b e => ?_, fun j b e => ?_, fun j hj _ => k.block j hj, fun j b e => .inl (k.block b (h.row e).2.1), fun j b e n => ?_, fun e j m b e1 e2 => ?_⟩
  · show (if j = i then some w.heap.size else g j) = some b
    rw [if_neg (fun x => by have e' : g j = some b := e; rw [x, hi] at e'; cases e')]
    exact e
  · have e' : (if j = i then some w.heap.size else g j) = some b := e
    by_cases x : j = i
    · rw [if_pos x] at e'; cases e'; exact .inr (Nat.le_refl _)
    · rw [if_neg x] at e'; exact .inl e'
  · have e' : (if j = i then some w.heap.size else g j) = some b := e
    by_cases x : j = i
    · rw [if_pos x] at e'; cases e'
      subst x
      exact .inl (heap_alloc_new w _)
    · rw [if_neg x] at e'
      exact absurd (e'.symm.trans n) (by simp)
  · have e1' : (if j = i then some w.heap.size else g j) = some b := e1
    have e2' : (if m = i then some w.heap.size else g m) = some b := e2
    by_cases x : j = i
    · by_cases y : m = i
      · rw [x, y]
      · rw [if_pos x] at e1'; rw [if_neg y] at e2'; cases e1'
        have := (h.row e2').2.1
        exact absurd this (Nat.lt_irrefl _)
    · by_cases y : m = i
      · rw [if_neg x] at e1'; rw [if_pos y] at e2'; cases e2'
        have := (h.row e1').2.1
        exact absurd this (Nat.lt_irrefl _)
      · rw [if_neg x] at e1'; rw [if_neg y] at e2'
        exact e j m b e1' e2'
theorem NLe.put (h : NLe Z F (W, fun _ => none) (w, g)) {i b : Nat} (hb : g i = some b) (k : w.grownBy w' (some b)) (hf : w'.heap[b]? = some (F i)) : NLe Z F (w, g) (w', g) := by
  have hinj := h.inj (fun i k b e => by cases e)
  refine ⟨k.os, k.tape, k.output, k.size, fun _ _ e => e, fun _ _ e => .inl e, fun j hj e => k.block j hj (fun x => by cases x; exact e i hb), fun j c e => ?_, fun j c e n => absurd ((show g j = some c from e).symm.trans n) (by simp), fun e => e⟩
  by_cases x : c = b
  · subst x
    rw [hinj j i c e hb]
    exact .inr hf
  · exact .inl (k.block c (h.row e).2.1 (fun y => x (Option.some.inj y)))
variable {P : Program} {al : Nat → Nat}
theorem newG_alloc (h : NLe Z F (W, fun _ => none) (w, g)) (i : Nat) (hp : PreN al (al i) (w, g)) : growG P (LePg (NLe Z F) (PreN al) (al i)) (w, g) (AlN i) (.ok (.value (.pointer (some ⟨w.heap.size, 0, none⟩))) (w.alloc (Z i))) :=
  growG_value _ _ _ _ _ (fun j => if j = i then some w.heap.size else g j) ⟨h.alloc (hp i rfl), PreN.upd⟩ ⟨_, rfl, by simp⟩
theorem newG_put (h : NLe Z F (W, fun _ => none) (w, g)) {i m : Nat} {ρ : Operand → Value} {o : Oper} (ty : TypeId) (x y : Operand) (ho : o.op = .store ty x y) {t : TypeId} {cs0 cs : List Value} {n b : Nat}
    (hx : ρ x = .pointer (some ⟨b, 0, none⟩)) (hb : g i = some b) (hy : ρ y = .agg cs.toArray) (hZ : Z i = .cells cs0.toArray t (0, 0)) (hF : F i = .cells cs.toArray t (0, 0)) (hi : (P.info? ty).map (·.size) = some n) (hn : cs0.length = n) (hn' : cs.length = n) (h1 : ∀ v ∈ cs, v.oneCell' = true) :
    growG P (LePg (NLe Z F) (PreN al) m) (w, g) (StN F i) ((execOp ρ o).run P w) := by
  have hbk : ∃ z, Blk w b t z ∧ z.length = n := by
    rcases (h.row hb).2.2 with e | e
    · rw [hZ] at e; exact ⟨cs0, e, hn⟩
    · rw [hF] at e; exact ⟨cs, e, hn'⟩
  obtain ⟨z, hz, hl⟩ := hbk
  have hr := run_storeVar_row (P := P) w b t ty z.toArray cs.toArray hz (by rw [hi]; simp [hn']) (by simp [hl, hn']) (all_oneCell_toArray h1)
  have hb2 := hz.setRow' cs
  unfold execOp
  simp only [ho, hx, hy, Instr.storeAt, Instr.sureAddr, Sem.run_bind, Sem.run_pure, Result.andThen_ok, hr]
  have hf : (w.setRow b cs.toArray).heap[b]? = some (F i) := by rw [hF]; exact hb2
  exact growG_skip g ⟨h.put hb ⟨rfl, rfl, rfl, by simp, fun k _ hk => setRow_other w b k _ (fun e => hk (by rw [e]))⟩ hf, PreN.same⟩ ⟨b, hb, hf⟩
theorem newG_call (h : NLe Z F (W, fun _ => none) (w, g)) {m : Nat} {f : FuncId} {args : Array Value} {v : Value} (hc : Calls P f args w fun e w' => e = .returned v ∧ Gr w w') :
    growG P (LePg (NLe Z F) (PreN al) m) (w, g) (IsG v) (.ok (.enter f args) w) :=
  growG_enter (hc.mono fun e w' ⟨he, hg⟩ => ⟨v, g, he, ⟨h.grow hg, PreN.same⟩, rfl⟩)
end
end Go.Proofs.YtpaogoehgkoaeaaGreatDoor
namespace Go.Proofs.YtpaogoehgkoaeaaGreatDoor
set_option linter.unusedVariables false
set_option linter.unusedSimpArgs false
open Go.RowKit Ikey Varint
/-- a cursor's cells -/
def curV (gl : Nat) (side : Int) (q : Nat × Nat) : List Value := [.pointer (some ⟨gl, 0, none⟩), .int .i64 side, .int .i64 (q.1 : Int), .int .i64 (q.2 : Int)]
theorem checkC_any (w : World) (g gl gc : Nat) (L : Ls) (side : Int) (q : Nat × Nat) (hc : Blk w gc 151 (curV gl side q)) (hb : Blk w gl 124 (lstV g L)) :
    Calls Tryz.prog 73 #[.pointer (some ⟨gc, 0, none⟩)] w fun e w' => e = .returned (.int .i64 (if L.fd = true then 3 else 0)) ∧ w = w' := by
  obtain ⟨c0, _, _, _⟩ := Blk.four hc
  obtain ⟨_, _, _, c30⟩ := lst_tail hb
  clear hc hb
  cases hd : L.fd with
  | true =>
    rw [hd] at c30
    go_enter Tryz.func73, Tryz.ntmps73
    go_wp2
    go_ret
    exact ⟨rfl, rfl⟩
  | false =>
    rw [hd] at c30
    go_enter Tryz.func73, Tryz.ntmps73
    go_wp2
    go_ret
    exact ⟨rfl, rfl⟩
set_option maxRecDepth 100000 in
set_option maxHeartbeats 1000000 in
theorem stand_none (w : World) (gl gc : Nat) (side off : Int) (q : Nat × Nat) (hc : Blk w gc 151 (curV gl side q)) :
    Calls Tryz.prog 75 #[.pointer (some ⟨gc, 0, none⟩), lnk (0, 0), .int .i64 0, .int .i64 off] w fun e w' => e = .returned (.int .i64 15) ∧ Blk w' gc 151 (curV gl off q) ∧ Chg (fun j => j = gc) w w' := by
  have g0 := Gr.alloc w (.cells #[.int .i64 0, .int .i64 0] 121)
  have HB := Lib.hid (hc.gr g0)
  obtain ⟨c0, c1, c2, c3, f0, f1, f2, f3⟩ := Blk.four (hc.gr g0)
  unfold lnk
  clear hc
  go_enter Tryz.func75, Tryz.ntmps75
  go_wp2
  go_ret
  exact ⟨rfl, HB.out.set_ 1 (.int .i64 off), (g0.chg (S := fun j => j = gc)).trans (Chg.grown (b := gc) (grown_set _ gc 1 _) (S := fun j => j = gc) rfl) (fun j hj => .inl hj)⟩
set_option maxRecDepth 100000 in
set_option maxHeartbeats 1000000 in
theorem stand_some (w : World) (gl gc : Nat) (side off : Int) (q q2 : Nat × Nat) (hc : Blk w gc 151 (curV gl side q)) (h1 : 1 ≤ q2.2) :
    Calls Tryz.prog 75 #[.pointer (some ⟨gc, 0, none⟩), lnk q2, .int .i64 0, .int .i64 off] w fun e w' => e = .returned (.int .i64 0) ∧ Blk w' gc 151 (curV gl 1 q2) ∧ Chg (fun j => j = gc) w w' := by
  obtain ⟨x, y⟩ := q2
  simp only at h1
  have g0 := Gr.alloc w (.cells #[.int .i64 (x : Int), .int .i64 (y : Int)] 121)
  have HB := Lib.hid (hc.gr g0)
  have hlt := hc.lt
  obtain ⟨c0, c1, c2, c3, f0, f1, f2, f3⟩ := Blk.four (hc.gr g0)
  obtain ⟨d0, d1, d2, d3, e0, e1, e2, e3⟩ := Blk.four hc
  have hne : ¬ gc = w.heap.size := by omega
  have HC := Lib.hid hc
  have hyb : ((y : Int) == 0) = false := by rw [beq_eq_false_iff_ne]; omega
  unfold lnk
  simp only
  clear hc
  go_enter Tryz.func75, Tryz.ntmps75
  go_wp2
  go_region
  go_wp2
  go_ret
  have k : w.grownBy ((((w.setCell ⟨gc, 1, none⟩ (.int .i64 1)).setCell ⟨gc, 2, none⟩ (.int .i64 (x : Int))).setCell ⟨gc, 3, none⟩ (.int .i64 (y : Int))).alloc (.cells #[.int .i64 (x : Int), .int .i64 (y : Int)] 121)).drew (some gc) :=
    grown_trans (grown_trans (grown_trans (grown_trans (grown_set w gc 1 _) (grown_set _ gc 2 _)) (grown_set _ gc 3 _)) (Gr.alloc _ _).far) (grown_drew _ _)
  exact ⟨rfl, ((((HC.out.set_ 1 (.int .i64 1)).set_ 2 (.int .i64 (x : Int))).set_ 3 (.int .i64 (y : Int))).alloc _).drew, Chg.grown (S := fun j => j = gc) k rfl⟩
end Go.Proofs.YtpaogoehgkoaeaaGreatDoor
