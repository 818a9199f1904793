/- A region that draws its order: what each operation's value is known to be, whatever the order. Each operation is shown once, from what is known of its operands, in whatever world that has grown so far. No program is in sight here. -/
import Derived.Test.YtfnimpgphagnfaaMem
namespace Go.Proofs.Ytfnimpgphagnfaa
set_option linter.unusedVariables false
set_option linter.unusedSimpArgs false
open Go.RowKit
section
variable {P : Program}

def growUpon (P : Program) (Le : World → World → Prop) (w : World) (R : Value → World → Prop) : Result Next → Prop
  | .ok (.value v) w' => Le w w' ∧ R v w'
  | .ok .skip w' => Le w w' ∧ R undef w'
  | .ok (.enter f args) w' => Le w w' ∧ Calls P f args w' fun e w'' => ∃ v, e = .returned v ∧ Le w' w'' ∧ R v w''
  | _ => False
def depsOf (o : Oper) : List Nat := o.after.toList.filterMap fun e => if Region.binds .any e then some e.on else none
def tmpOf : Operand → Option Tmp
  | .tmp t => some t
  | _ => none
def slotsOf (o : Oper) : List Tmp := o.op.operands.toList.filterMap tmpOf
def dstOf (ops : List Oper) (j : Nat) : Option Tmp := (ops[j]?).bind (·.dst)
def srcOf (ops : List Oper) (o : Oper) (t : Tmp) : Option Nat := (depsOf o).find? fun j => dstOf ops j == some t
/-- what an operand's reading goes by -/
def Ev (ρ : Operand → Value) : Prop := (∀ v, ρ (.const v) = v) ∧ (∀ f, ρ (.func f) = .func (.func f) #[] #[]) ∧ ∀ g, ρ (.global g) = .pointer (some ⟨g, 0, none⟩)
def boolOf : Value → Option Bool
  | .bool b => some b
  | _ => none
def wantedBy (ops : List Oper) (o : Oper) (ρ : Operand → Value) : Bool :=
  match o.guard with
  | none => true
  | some (j, b) => (match dstOf ops j with | some d => boolOf (ρ (.tmp d)) | none => none) == some b
def readsOf (ops : List Oper) (o : Oper) : List Tmp := slotsOf o ++ (match o.guard with | none => [] | some (j, _) => (dstOf ops j).toList)
def knownOf (ops : List Oper) (R : Nat → Value → World → Prop) (a0 : Act) (o : Oper) (t : Tmp) (v : Value) (w : World) : Prop :=
  match srcOf ops o t with
  | some j => R j v w
  | none => v = a0.tmps.getD t undef
/-- of a row of slots -/
def KnownAll (ops : List Oper) (R : Nat → Value → World → Prop) (a0 : Act) (o : Oper) (ρ : Operand → Value) (w : World) : List Tmp → Prop
  | [] => True
  | t :: r => knownOf ops R a0 o t (ρ (.tmp t)) w ∧ KnownAll ops R a0 o ρ w r
theorem KnownAll.of {ops : List Oper} {R : Nat → Value → World → Prop} {a0 : Act} {o : Oper} {ρ : Operand → Value} {w : World} : ∀ {l : List Tmp}, (∀ t ∈ l, knownOf ops R a0 o t (ρ (.tmp t)) w) → KnownAll ops R a0 o ρ w l
  | [], _ => trivial
  | t :: r, h => ⟨h t List.mem_cons_self, KnownAll.of fun x hx => h x (List.mem_cons_of_mem _ hx)⟩
/-- what is to be shown of an operation -/
def Shown (P : Program) (Le : World → World → Prop) (ops : List Oper) (R : Nat → Value → World → Prop) (a0 : Act) (w0 : World) (i : Nat) (o : Oper) : Prop :=
  ∀ ρ w, Ev ρ → Le w0 w → KnownAll ops R a0 o ρ w (readsOf ops o) →
    if wantedBy ops o ρ then growUpon P Le w (R i) ((execOp ρ o).run P w) else R i undef w
def opOk (ops : List Oper) (n i : Nat) (o : Oper) : Bool :=
  (match o.op with | .select .. => false | _ => true) &&
  (match o.dst with | some d => decide (d < n) && !(readsOf ops o).contains d | none => true) &&
  (depsOf o).all (fun j => decide (j < i)) &&
  (match o.guard with | some (j, _) => (depsOf o).contains j && (dstOf ops j).isSome | none => true) &&
  (List.range ops.length).all (fun j => j == i || (match dstOf ops j with | some d => o.dst != some d && (!(readsOf ops o).contains d || (depsOf o).contains j || (match ops[j]? with | some o' => (depsOf o').contains i | none => false)) | none => true))
def anyB (ops : List Oper) (n : Nat) : Bool := (List.range ops.length).all fun i => match ops[i]? with | some o => opOk ops n i o | none => true

def putAll (val : Nat → Value) : List Oper → Nat → Act → Act
  | [], _, a => a
  | o :: r, i, a => putAll val r (i + 1) (a.put o.dst (val i))

theorem put_size (a : Act) (d : Option Tmp) (v : Value) : (a.put d v).tmps.size = a.tmps.size := by cases d <;> simp [Act.put]
theorem put_defers (a : Act) (d : Option Tmp) (v : Value) : (a.put d v).defers = a.defers := by cases d <;> rfl
theorem put_same (a : Act) (d : Tmp) (v : Value) (h : d < a.tmps.size) : (a.put (some d) v).tmps.getD d undef = v := by simp [Act.put, h]
theorem put_other (a : Act) (d : Option Tmp) (v : Value) (t : Tmp) (h : d ≠ some t) : (a.put d v).tmps.getD t undef = a.tmps.getD t undef := by
  cases d with
  | none => rfl
  | some d =>
    have : d ≠ t := fun e => h (by rw [e])
    simp [Act.put, Array.getElem?_setIfInBounds_ne this]
theorem putAll_size (val : Nat → Value) : ∀ (l : List Oper) (i : Nat) (a : Act), (putAll val l i a).tmps.size = a.tmps.size
  | [], _, _ => rfl
  | o :: r, i, a => by rw [putAll, putAll_size val r, put_size]
theorem putAll_defers (val : Nat → Value) : ∀ (l : List Oper) (i : Nat) (a : Act), (putAll val l i a).defers = a.defers
  | [], _, _ => rfl
  | o :: r, i, a => by rw [putAll, putAll_defers val r, put_defers]
theorem putAll_other (val : Nat → Value) (t : Tmp) : ∀ (l : List Oper) (i : Nat) (a : Act), (∀ o ∈ l, o.dst ≠ some t) → (putAll val l i a).tmps.getD t undef = a.tmps.getD t undef
  | [], _, _, _ => rfl
  | o :: r, i, a, h => by
    rw [putAll, putAll_other val t r (i + 1) _ (fun o' ho => h o' (List.mem_cons_of_mem _ ho)), put_other _ _ _ _ (h o List.mem_cons_self)]
theorem putAll_at (val : Nat → Value) (t : Tmp) : ∀ (l : List Oper) (i : Nat) (a : Act) (k : Nat) (o : Oper), l[k]? = some o → o.dst = some t → t < a.tmps.size →
    (∀ j o', l[j]? = some o' → j ≠ k → o'.dst ≠ some t) → (putAll val l i a).tmps.getD t undef = val (i + k)
  | [], _, _, _, _, h, _, _, _ => by simp at h
  | x :: r, i, a, 0, o, h, hd, ht, hu => by
    simp at h; subst h
    rw [putAll, putAll_other val t r (i + 1) _ (fun o' ho => by
      obtain ⟨j, hj, e⟩ := List.getElem_of_mem ho
      exact hu (j + 1) o' (by simp [hj, e]) (by omega)), hd, put_same _ _ _ ht]; rfl
  | x :: r, i, a, k + 1, o, h, hd, ht, hu => by
    rw [putAll, putAll_at val t r (i + 1) _ k o (by simpa using h) hd (by rw [put_size]; exact ht) (fun j o' hj hjk => hu (j + 1) o' (by simpa using hj) (by omega))]
    congr 1; omega
theorem act_ext {a b : Act} (h1 : a.tmps.size = b.tmps.size) (h2 : a.defers = b.defers) (h3 : ∀ t, a.tmps.getD t undef = b.tmps.getD t undef) : a = b := by
  cases a with
  | mk t1 d1 =>
    cases b with
    | mk t2 d2 =>
      simp only at h1 h2 h3
      subst h2
      congr 1
      apply Array.ext h1
      intro i hi1 hi2
      have := h3 i
      simpa [hi1, hi2] using this

/-- what holds on the way -/
structure OnWay (Le : World → World → Prop) (ops : List Oper) (R : Nat → Value → World → Prop) (a0 : Act) (w0 : World) (listed : Array Bool) (a : Act) (w : World) : Prop where
  size : listed.size = ops.length
  le : Le w0 w
  defers : a.defers = a0.defers
  tmps : a.tmps.size = a0.tmps.size
  closed : ∀ j o, ops[j]? = some o → listed.getD j false = true → ∀ d ∈ depsOf o, listed.getD d false = true
  known : ∀ j o d, ops[j]? = some o → listed.getD j false = true → o.dst = some d → R j (a.tmps.getD d undef) w
  rest : ∀ t, (∀ j o, ops[j]? = some o → listed.getD j false = true → o.dst ≠ some t) → a.tmps.getD t undef = a0.tmps.getD t undef

theorem opOk_of {ops : List Oper} {n : Nat} (hB : anyB ops n = true) {i : Nat} {o : Oper} (hi : ops[i]? = some o) : opOk ops n i o = true := by
  have := List.all_eq_true.1 hB i (List.mem_range.2 (List.getElem?_eq_some_iff.1 hi).1)
  simpa [hi] using this
theorem listed_set {listed : Array Bool} {i j : Nat} (h : (listed.setIfInBounds i true).getD j false = true) : j = i ∨ listed.getD j false = true := by
  by_cases hij : i = j
  · exact .inl hij.symm
  · rw [getD_set_ne false hij] at h; exact .inr h
theorem yielded_eq (ops : List Oper) (tmps : Array Value) (j : Nat) : yielded ops.toArray tmps j = match dstOf ops j with | some d => boolOf (tmps.getD d undef) | none => none := by
  unfold yielded dstOf
  simp only [List.getElem?_toArray]
  cases h : (ops[j]?).bind (·.dst) with
  | none => rfl
  | some d =>
    simp only [Option.bind_some]
    by_cases hd : d < tmps.size
    · simp [hd]
      cases tmps[d] <;> rfl
    · simp [hd]
      rfl

def cnt (f : Nat → Bool) : Nat → Nat
  | 0 => 0
  | n + 1 => cnt f n + (if f n then 0 else 1)
theorem cnt_le (f : Nat → Bool) : ∀ n, cnt f n ≤ n
  | 0 => Nat.le_refl _
  | n + 1 => by have := cnt_le f n; rw [cnt]; split <;> omega
theorem cnt_zero {f : Nat → Bool} : ∀ {n : Nat}, cnt f n = 0 → ∀ k, k < n → f k = true
  | 0, _, _, h => absurd h (by omega)
  | n + 1, hc, k, hk => by
    rw [cnt] at hc
    by_cases h : k = n
    · subst h
      cases hf : f k with
      | true => rfl
      | false => simp [hf] at hc
    · exact cnt_zero (n := n) (by omega) k (by omega)
theorem cnt_same {f g : Nat → Bool} : ∀ {n : Nat}, (∀ k, k < n → f k = g k) → cnt f n = cnt g n
  | 0, _ => rfl
  | n + 1, h => by rw [cnt, cnt, cnt_same (n := n) fun k hk => h k (by omega), h n (by omega)]
theorem cnt_set {f g : Nat → Bool} {i : Nat} : ∀ {n : Nat}, i < n → f i = false → (∀ k, g k = (f k || k == i)) → cnt g n + 1 = cnt f n
  | 0, h, _, _ => absurd h (by omega)
  | n + 1, h, hf, hg => by
    rw [cnt, cnt]
    by_cases hin : i = n
    · subst hin
      have e : cnt g i = cnt f i := cnt_same fun k hk => by
        have h2 : (k == i) = false := by simp; omega
        rw [hg, h2, Bool.or_false]
      rw [e, hg, hf]; simp
    · have := cnt_set (n := n) (by omega) hf hg
      have h2 : (n == i) = false := by simp; omega
      have e : g n = f n := by rw [hg, h2, Bool.or_false]
      rw [e]; omega
theorem getD_replicate_false' (m j : Nat) : (Array.replicate m false).getD j false = false := by
  rcases Nat.lt_or_ge j m with h | h
  · simp [h]
  · simp [h]
theorem region_any {Le : World → World → Prop} (hrefl : ∀ w, Le w w) (htrans : ∀ a b c, Le a b → Le b c → Le a c) (hdrew : ∀ w, Le w w.drew) {id : Nat} {Q : Exit → Act → World → Prop} {a0 : Act} {w : World} {l : List Oper} (n : Nat) (R : Nat → Value → World → Prop)
    (hm : P.follows .mixedOrders = true) (hB : anyB l n = true) (hn : a0.tmps.size = n) (hst : ∀ i v w1 w2, R i v w1 → Le w1 w2 → R i v w2)
    (hs : ∀ i o, l[i]? = some o → Shown P Le l R a0 w i o)
    (hfin : ∀ w1 val, Le w w1 → (∀ i o, l[i]? = some o → o.dst.isSome = true → R i (val i) w1) → Q .normal (putAll val l 0 a0) w1) : (Code.region id l.toArray true).wp P Q a0 w := by
  have hsize : l.toArray.size = l.length := by simp
  have allL : ∀ (listed : Array Bool), listed.size = l.length → Region.ready .any l.toArray listed = [] → ∀ k, k < l.length → listed.getD k false = true := by
    intro listed hls hr k
    induction k using Nat.strongRecOn with
    | _ k ih =>
      intro hk
      cases hc : listed.getD k false with
      | true => rfl
      | false =>
        exfalso
        have hok := opOk_of hB (i := k) (o := l[k]) (by simp [hk])
        have hmem : k ∈ Region.ready .any l.toArray listed := by
          rw [mem_ready]
          refine ⟨?_, l[k], by simp [hk], fun e he hb => ?_⟩
          · have : k < listed.size := by omega
            simp [this] at hc ⊢; exact hc
          · have hd : e.on ∈ depsOf l[k] := by
              unfold depsOf
              rw [List.mem_filterMap]
              exact ⟨e, by simpa using he, by rw [hb]; rfl⟩
            simp only [opOk, Bool.and_eq_true, List.all_eq_true, decide_eq_true_eq] at hok
            have hlt := hok.1.1.2 _ hd
            exact ih _ hlt (by omega)
        rw [hr] at hmem
        cases hmem
  have fin : ∀ (listed : Array Bool) (a : Act) (w1 : World), OnWay Le l R a0 w listed a w1 → (∀ k, k < l.length → listed.getD k false = true) → Q .normal a w1 := by
    intro listed a w1 inv hall
    have hval := hfin w1 (fun j => match dstOf l j with | some d => a.tmps.getD d undef | none => undef) inv.le (fun i o hi hd => by
      obtain ⟨d, hd⟩ := Option.isSome_iff_exists.1 hd
      have : dstOf l i = some d := by simp [dstOf, hi, hd]
      simp only [this]
      exact inv.known i o d hi (hall i (List.getElem?_eq_some_iff.1 hi).1) hd)
    have e : a = putAll (fun j => match dstOf l j with | some d => a.tmps.getD d undef | none => undef) l 0 a0 := by
      refine act_ext (by rw [putAll_size, inv.tmps]) (by rw [putAll_defers, inv.defers]) fun t => ?_
      by_cases ht : ∃ (j : Nat) (o : Oper), l[j]? = some o ∧ o.dst = some t
      · obtain ⟨j, o, hj, hd⟩ := ht
        have hok := opOk_of hB hj
        have htn : t < n := by
          simp only [opOk, hd, Bool.and_eq_true, decide_eq_true_eq] at hok
          exact hok.1.1.1.2.1
        rw [putAll_at _ t l 0 a0 j o hj hd (by rw [hn]; exact htn) (fun j' o' hj' hne hd' => by
          have hok' := opOk_of hB hj'
          simp only [opOk, Bool.and_eq_true, List.all_eq_true] at hok'
          have h2 := hok'.2 j (List.mem_range.2 (List.getElem?_eq_some_iff.1 hj).1)
          have hdj : dstOf l j = some t := by simp [dstOf, hj, hd]
          simp [hdj, hd', Ne.symm hne] at h2)]
        have hdj : dstOf l (0 + j) = some t := by simp [dstOf, hj, hd]
        simp only [hdj]
      · rw [putAll_other _ t l 0 a0 (fun o ho hd => ht (by
          obtain ⟨j, hj, e⟩ := List.getElem_of_mem ho
          exact ⟨j, o, by simp [hj, e], hd⟩))]
        exact inv.rest t (fun j o hj _ hd => ht ⟨j, o, hj, hd⟩)
    rw [e]; exact hval
  have key : ∀ (fuel : Nat) (listed : Array Bool) (a : Act) (w1 : World), OnWay Le l R a0 w listed a w1 → cnt (fun k => listed.getD k false) l.length ≤ fuel → wpAny P .any l.toArray Q fuel listed a w1 := by
    intro fuel
    induction fuel with
    | zero =>
      intro listed a w1 inv hc
      have hall := cnt_zero (by omega : cnt (fun k => listed.getD k false) l.length = 0)
      refine ⟨?_, fin listed a w1 inv hall⟩
      rw [List.eq_nil_iff_forall_not_mem]
      intro j hj
      obtain ⟨h1, o, ho, _⟩ := mem_ready.1 hj
      have hlt : j < l.length := by
        have := (Array.getElem?_eq_some_iff.1 ho).1
        simpa using this
      have h2 := hall j hlt
      have : j < listed.size := by rw [inv.size]; exact hlt
      simp [this] at h1 h2
      rw [h1] at h2; cases h2
    | succ fuel ih =>
      intro listed a w1 inv hc
      refine ⟨fun hr => fin listed a w1 inv (allL listed inv.size hr), fun i hi => ?_⟩
      obtain ⟨h1, o, ho, hdeps⟩ := mem_ready.1 hi
      have hio : l[i]? = some o := by simpa using ho
      have hlt : i < l.length := (List.getElem?_eq_some_iff.1 hio).1
      have hls : i < listed.size := by rw [inv.size]; exact hlt
      have hun : listed.getD i false = false := by simp [hls] at h1 ⊢; exact h1
      have hok := opOk_of hB hio
      have hdl : ∀ d ∈ depsOf o, listed.getD d false = true := by
        intro d hd
        unfold depsOf at hd
        obtain ⟨e, he, hb⟩ := List.mem_filterMap.1 hd
        split at hb
        · rename_i hbb
          cases hb
          exact hdeps e (by simpa using he) hbb
        · cases hb
      have hcnt : cnt (fun k => (listed.setIfInBounds i true).getD k false) l.length ≤ fuel := by
        have := cnt_set (f := fun k => listed.getD k false) (g := fun k => (listed.setIfInBounds i true).getD k false) (i := i) (n := l.length) hlt hun (fun k => by
          by_cases hk : i = k
          · subst hk; simp [hls]
          · have hk' : (k == i) = false := by simp; omega
            simp only [getD_set_ne false hk, hk', Bool.or_false])
        omega
      have hkn : ∀ t ∈ readsOf l o, knownOf l R a0 o t (a.eval (.tmp t)) w1 := by
        intro t ht
        show knownOf l R a0 o t (a.tmps.getD t undef) w1
        unfold knownOf
        cases hsrc : srcOf l o t with
        | some j =>
          have hj := List.mem_of_find?_eq_some hsrc
          have hjt := List.find?_some hsrc
          have hjd : dstOf l j = some t := by simpa using hjt
          unfold dstOf at hjd
          cases hlj : l[j]? with
          | none => simp [hlj] at hjd
          | some oj =>
            simp [hlj] at hjd
            exact inv.known j oj t hlj (hdl j hj) hjd
        | none =>
          refine inv.rest t (fun j oj hlj hll hd => ?_)
          have hdj : dstOf l j = some t := by simp [dstOf, hlj, hd]
          have hne : j ≠ i := fun e => by subst e; rw [hun] at hll; cases hll
          simp only [opOk, Bool.and_eq_true, List.all_eq_true] at hok
          have h2 := hok.2 j (List.mem_range.2 (List.getElem?_eq_some_iff.1 hlj).1)
          simp only [hdj, hlj] at h2
          have ht' : (readsOf l o).contains t = true := by simpa using ht
          simp [hne, ht] at h2
          rcases h2.2 with h3 | h3
          · have := List.find?_eq_none.1 hsrc j h3
            simp [hdj] at this
          · have := inv.closed j oj hlj hll i h3
            rw [hun] at this; cases this
      have hsh := hs i o hio a.eval w1 ⟨fun _ => rfl, fun _ => rfl, fun _ => rfl⟩ inv.le (KnownAll.of hkn)
      have hwant : Region.wanted o (yielded l.toArray a.tmps) = wantedBy l o a.eval := by
        unfold Region.wanted wantedBy
        cases o.guard with
        | none => rfl
        | some g => simp only [yielded_eq]; rfl
      have step : ∀ v w2, Le w1 w2 → R i v w2 → wpAny P .any l.toArray Q fuel (listed.setIfInBounds i true) (a.put o.dst v) w2 := by
        intro v w2 hle hv
        refine ih _ _ _ ⟨by simp [inv.size], htrans _ _ _ inv.le hle, by rw [put_defers, inv.defers], by rw [put_size, inv.tmps], ?_, ?_, ?_⟩ hcnt
        · intro j oj hj hl d hd
          rcases listed_set hl with rfl | hl
          · rw [hio] at hj; cases hj
            exact getD_set_true (hdl d hd)
          · exact getD_set_true (inv.closed j oj hj hl d hd)
        · intro j oj d hj hl hd
          rcases listed_set hl with rfl | hl2
          · rw [hio] at hj; cases hj
            have hdn : d < n := by
              simp only [opOk, hd, Bool.and_eq_true, decide_eq_true_eq] at hok
              exact hok.1.1.1.2.1
            rw [hd, put_same _ _ _ (by rw [inv.tmps, hn]; exact hdn)]
            exact hv
          · by_cases hji : j = i
            · subst hji; rw [hun] at hl2; cases hl2
            · rw [put_other _ _ _ _ (fun hd' => by
                simp only [opOk, Bool.and_eq_true, List.all_eq_true] at hok
                have h2 := hok.2 j (List.mem_range.2 (List.getElem?_eq_some_iff.1 hj).1)
                have hdj : dstOf l j = some d := by simp [dstOf, hj, hd]
                simp [hdj, hd', hji] at h2)]
              exact hst j _ _ _ (inv.known j oj d hj hl2 hd) hle
        · intro t ht
          have h1 : o.dst ≠ some t := ht i o hio (by simp [hls])
          rw [put_other _ _ _ _ h1]
          exact inv.rest t (fun j oj hj hl => ht j oj hj (getD_set_true hl))
      unfold wpOp
      simp only [ho, hwant]
      split
      · rename_i hw
        rw [hw] at hsh
        simp only [if_true] at hsh
        left
        unfold Oper.wp
        generalize (execOp a.eval o).run P w1 = r at hsh
        cases r with
        | halt x w' => exact hsh.elim
        | ok nx w' =>
          cases nx with
          | value v => exact step v w' hsh.1 hsh.2
          | skip => exact step undef w' hsh.1 hsh.2
          | enter f args =>
            obtain ⟨h2, h3⟩ := hsh
            exact h3.mono fun e w'' ⟨v, he, hle, hv⟩ => by subst he; exact step v w'' (htrans _ _ _ h2 hle) hv
          | _ => exact hsh.elim
      · rename_i hw
        simp only [Bool.not_eq_true] at hw
        rw [hw] at hsh
        exact step undef w1 (hrefl _) (by simpa using hsh)
  refine wp_region_any hm ?_
  refine key l.toArray.size (Array.replicate l.toArray.size false) a0 w.drew ⟨by rw [Array.size_replicate, hsize], hdrew w, rfl, rfl, ?_, ?_, ?_⟩ ?_
  · intro j o _ hl; rw [getD_replicate_false'] at hl; cases hl
  · intro j o d _ hl; rw [getD_replicate_false'] at hl; cases hl
  · intro t _; rfl
  · show cnt _ l.length ≤ l.toArray.size
    rw [hsize]; exact cnt_le _ _

/-- the value is known outright -/
def Is (x : Value) : Value → World → Prop := fun v _ => v = x
@[go_sem] theorem growUpon_value (P : Program) (Le : World → World → Prop) (w w' : World) (R : Value → World → Prop) (v : Value) : growUpon P Le w R (.ok (.value v) w') = (Le w w' ∧ R v w') := rfl
@[go_sem] theorem growUpon_enter (P : Program) (Le : World → World → Prop) (w w' : World) (R : Value → World → Prop) (f : FuncId) (args : Array Value) :
    growUpon P Le w R (.ok (.enter f args) w') = (Le w w' ∧ Calls P f args w' fun e w'' => ∃ v, e = .returned v ∧ Le w' w'' ∧ R v w'') := rfl
@[go_sem] theorem gr_refl (w : World) : Gr w w ↔ True := ⟨fun _ => trivial, fun _ => Gr.refl w⟩
theorem is_here {P : Program} {w : World} {v x : Value} (h : v = x) : growUpon P Gr w (Is x) (.ok (.value v) w) := ⟨Gr.refl w, h⟩
/-- a slice that reads as these bytes -/
def ReadsB (l : List UInt8) : Value → World → Prop := fun v w => ∃ ad cap, v = .slice ad l.length cap ∧ Bytes w ad l
def Stable (Le : World → World → Prop) (r : Value → World → Prop) : Prop := ∀ v w1 w2, r v w1 → Le w1 w2 → r v w2
theorem Is.stable {Le : World → World → Prop} (x : Value) : Stable Le (Is x) := fun _ _ _ h _ => h
theorem ReadsB.stable (l : List UInt8) : Stable Gr (ReadsB l) := fun _ _ _ ⟨ad, cap, e, hb⟩ hg => ⟨ad, cap, e, hb.gr hg⟩
def nth (Rs : List (Value → World → Prop)) (i : Nat) : Value → World → Prop := Rs.getD i fun _ _ => True
def AllShown (P : Program) (Le : World → World → Prop) (ops : List Oper) (Rs : List (Value → World → Prop)) (a0 : Act) (w0 : World) : List Oper → Nat → Prop
  | [], _ => True
  | o :: r, i => Shown P Le ops (nth Rs) a0 w0 i o ∧ AllShown P Le ops Rs a0 w0 r (i + 1)
theorem AllShown.get {Le : World → World → Prop} {ops : List Oper} {Rs : List (Value → World → Prop)} {a0 : Act} {w0 : World} : ∀ {l : List Oper} {k : Nat}, AllShown P Le ops Rs a0 w0 l k → ∀ i o, l[i]? = some o → Shown P Le ops (nth Rs) a0 w0 (k + i) o
  | [], _, _, i, o, hi => by simp at hi
  | x :: r, k, h, 0, o, hi => by simp at hi; subst hi; exact h.1
  | x :: r, k, h, i + 1, o, hi => by
    have := h.2.get i o (by simpa using hi)
    rwa [show k + 1 + i = k + (i + 1) by omega] at this
def AllStable (Le : World → World → Prop) : List (Value → World → Prop) → Prop
  | [] => True
  | r :: rs => Stable Le r ∧ AllStable Le rs
theorem AllStable.get {Le : World → World → Prop} : ∀ {Rs : List (Value → World → Prop)}, AllStable Le Rs → ∀ i, Stable Le (nth Rs i)
  | [], _, i => by intro v w1 w2 _ _; simp [nth]
  | r :: rs, h, 0 => h.1
  | r :: rs, h, i + 1 => h.2.get i
def Holds (val : Nat → Value) (w : World) : List (Value → World → Prop) → Nat → Prop
  | [], _ => True
  | r :: rs, i => r (val i) w ∧ Holds val w rs (i + 1)
theorem Holds.of {val : Nat → Value} {w : World} : ∀ {Rs : List (Value → World → Prop)} {k : Nat}, (∀ i, i < Rs.length → nth Rs i (val (k + i)) w) → Holds val w Rs k
  | [], _, _ => trivial
  | r :: rs, k, h => ⟨h 0 (by simp), Holds.of fun i hi => by
    have := h (i + 1) (by simpa using hi)
    rwa [show k + (i + 1) = k + 1 + i by omega] at this⟩
theorem region_any_gr {id : Nat} {Q : Exit → Act → World → Prop} {a0 : Act} {w : World} {l : List Oper} (n : Nat) (Rs : List (Value → World → Prop))
    (hm : P.follows .mixedOrders = true) (hB : anyB l n = true) (hd : l.all (·.dst.isSome) = true) (hlen : Rs.length = l.length) (hn : a0.tmps.size = n) (hst : AllStable Gr Rs)
    (hs : AllShown P Gr l Rs a0 w l 0) (hfin : ∀ w1 val, Gr w w1 → Holds val w1 Rs 0 → Q .normal (putAll val l 0 a0) w1) : (Code.region id l.toArray true).wp P Q a0 w :=
  region_any Gr.refl (fun _ _ _ => Gr.trans) Gr.drew n (nth Rs) hm hB hn (fun i v w1 w2 => hst.get i v w1 w2) (fun i o hi => by simpa using hs.get i o hi)
    (fun w1 val hg h => hfin w1 val hg (Holds.of fun i hi => by
      have hi' : i < l.length := by omega
      rw [Nat.zero_add]
      exact h i l[i] (by simp [hi']) (List.all_eq_true.1 hd _ (List.getElem_mem hi'))))

/-- calls within such a region, by the contract's form -/
theorem any_gr {f : FuncId} {args : Array Value} {wr : World} {v : Value} (h : Calls P f args wr fun e w' => e = .returned v ∧ Gr wr w') :
    Calls P f args wr fun e w2 => ∃ x, e = .returned x ∧ Gr wr w2 ∧ Is v x w2 := h.mono fun _ _ ⟨he, hg⟩ => ⟨_, he, hg, rfl⟩
theorem any_same {f : FuncId} {args : Array Value} {wr : World} {v : Value} (h : Calls P f args wr fun e w' => e = .returned v ∧ wr = w') :
    Calls P f args wr fun e w2 => ∃ x, e = .returned x ∧ Gr wr w2 ∧ Is v x w2 := h.mono fun _ _ ⟨he, hg⟩ => ⟨_, he, hg ▸ Gr.refl _, rfl⟩
theorem any_bytes {f : FuncId} {args : Array Value} {wr : World} {t : TypeId} {l : List UInt8} (h : Calls P f args wr (RetB t wr l)) :
    Calls P f args wr fun e w2 => ∃ x, e = .returned x ∧ Gr wr w2 ∧ ReadsB l x w2 := h.mono fun _ _ ⟨ad, cap, he, ho, hg⟩ => ⟨_, he, hg, ad, cap, rfl, ho.bytes⟩
theorem any_str {src dst e : TypeId} (hs : P.underlying src = some (.slice e)) (he : P.underlying e = some (.int .u8)) (hd : P.underlying dst = some .string) {v : Value} {wr : World} {l : List UInt8} (h : ReadsB l v wr) :
    growUpon P Gr wr (Is (.string (str l))) (((convert src dst v).run P wr).andThen fun a w' => .ok (.value a) w') := by
  obtain ⟨ad, cap, rfl, hb⟩ := h
  rw [run_string hs he hd rfl hb]
  exact is_here rfl

end
end Go.Proofs.Ytfnimpgphagnfaa
