/- When a list is freed each of its cursors is told to be stale, whatever lists take its region and slabs since; those tell what they hold. No condition. -/
import Derived.Test.YtpaogoehgkoaeaaBunSt3
import Derived.Test.YtpaogoehgkoaeaaBunSt4
import Derived.Test.YtpaogoehgkoaeaaBunSt2
import Derived.Test.YtpaogoehgkoaeaaBunSt1
import Derived.Test.YtpaogoehgkoaeaaRows
import Derived.Test.YtpaogoehgkoaeaaBunSt0
import Derived.ShutString
import Derived.ChangeOld
import Derived.SliceStrings
import Derived.SizedLaws
import Derived.Lib.SmallJoins
import Derived.Deep.SlicePairs
/- Layer 11 (skip): what no list, no cursor and a list that is freed tell. -/
namespace Go.Proofs.Ytpaogoehgkoaeaa
set_option linter.unusedVariables false
set_option linter.unusedSimpArgs false
open Go.RowKit Ikey Varint
theorem checkC_nil (w : World) : Calls Try.prog 32 #[.pointer none] w fun e w' => e = .returned (.int .i64 1) ∧ w = w' := by
  go_enter Try.func32, Try.ntmps32
  go_wp2
  go_ret
  exact ⟨rfl, rfl⟩
theorem Next_nil (w : World) : Calls Try.prog 14 #[.pointer none] w fun e w' => e = .returned (.int .i64 1) ∧ w = w' := by
  have HC := Lib.hid (checkC_nil w)
  go_enter Try.func14, Try.ntmps14
  go_wp2_with (first
    | (go_at_call 32; go_must (refine HC.out.mono ?_); rintro e w2 ⟨rfl, rfl⟩)
    | fail)
  go_ret
  exact ⟨rfl, rfl⟩
theorem Cell_nil (w : World) : Calls Try.prog 13 #[.pointer none] w fun e w' => e = .returned (zcE 1) ∧ Gr w w' := by
  have g1 := Gr.alloc w (.cells #[.string ⟨#[]⟩, .int .i64 0, .int .i64 0, .string ⟨#[]⟩] 36)
  have HC := Lib.hid (fun w => checkC_nil w)
  go_enter Try.func13, Try.ntmps13
  go_wp2_with (first
    | (go_at_call 32; go_must (refine (HC.out _).mono ?_); rintro e w2 ⟨rfl, rfl⟩)
    | fail)
  refine bodyPost_ret (v := zcE 1) (by unfold zcE zeC; simp [results, Try.results13, go_sem]; try rfl) rfl ⟨rfl, ?_⟩
  exact Gr.alloc _ _
section
variable {w : World} {g gl gc : Nat} {L : Ls} {side : Int} {q : Nat × Nat}
theorem Next_gone (hc : Blk w gc 84 (curV gl side q)) (hb : Blk w gl 65 (lstV g L)) (hd : L.fd = true) :
    Calls Try.prog 14 #[.pointer (some ⟨gc, 0, none⟩)] w fun e w' => e = .returned (.int .i64 3) ∧ w = w' := by
  have HC := Lib.hid (checkC_any w g gl gc L side q hc hb)
  rw [hd, if_pos rfl] at HC
  clear hc hb
  go_enter Try.func14, Try.ntmps14
  go_wp2_with (first
    | (go_at_call 32; go_must (refine HC.out.mono ?_); rintro e w2 ⟨rfl, rfl⟩)
    | fail)
  go_ret
  exact ⟨rfl, rfl⟩
theorem Cell_gone (hc : Blk w gc 84 (curV gl side q)) (hb : Blk w gl 65 (lstV g L)) (hd : L.fd = true) :
    Calls Try.prog 13 #[.pointer (some ⟨gc, 0, none⟩)] w fun e w' => e = .returned (zcE 3) ∧ Gr w w' := by
  have g1 := Gr.alloc w (.cells #[.string ⟨#[]⟩, .int .i64 0, .int .i64 0, .string ⟨#[]⟩] 36)
  have HC := Lib.hid (checkC_any _ g gl gc L side q (hc.gr g1) (hb.gr g1))
  rw [hd, if_pos rfl] at HC
  clear hc hb
  go_enter Try.func13, Try.ntmps13
  go_wp2_with (first
    | (go_at_call 32; go_must (refine HC.out.mono ?_); rintro e w2 ⟨rfl, rfl⟩)
    | fail)
  refine bodyPost_ret (v := zcE 3) (by unfold zcE zeC; simp [results, Try.results13, go_sem]; try rfl) rfl ⟨rfl, ?_⟩
  exact Gr.alloc _ _
end
end Go.Proofs.Ytpaogoehgkoaeaa
/- The reference of layer 11: a list, and Insert. -/
namespace Go.Proofs.Ytpaogoehgkoaeaa
set_option linter.unusedVariables false
set_option linter.unusedSimpArgs false
open Go.RowKit Ikey Varint
theorem made_gr (N : Nat) (e : TypeId) (size m : Nat) (xs : List Value) : Stable Gr (Made N e size m xs) := by
  rintro v w1 w2 ⟨ad, cap, rfl, ho⟩ h
  exact ⟨ad, cap, rfl, ho.gr h⟩
theorem place_ci (C : List Ce) (c : Ce) : placeI (ci C) c.i = ci (C.takeWhile (aheadC c.vr) ++ c :: C.dropWhile (aheadC c.vr)) := by
  have e : c.i.vr = c.vr := rfl
  have h : C = C.takeWhile (aheadC c.vr) ++ C.dropWhile (aheadC c.vr) := (List.takeWhile_append_dropWhile).symm
  have hr : rankI c.vr (ci C) = (ci (C.takeWhile (aheadC c.vr))).length := by rw [rank_ci, ci_len]; rfl
  unfold placeI
  rw [e, hr]
  generalize C.takeWhile (aheadC c.vr) = A at *
  generalize C.dropWhile (aheadC c.vr) = B at *
  subst h
  unfold ci
  simp
theorem chk_zero {fz : Bool} {k : List UInt8} {s d : Int} {v : List UInt8} {h : Int} (hc : chkI fz false k s d v h = 0) : fz = false ∧ okV k s d = true ∧ 1 ≤ h ∧ h ≤ 12 ∧ v.length ≤ 1000 := by
  unfold chkI at hc
  cases fz with
  | true => simp at hc
  | false =>
    rw [if_neg (by decide)] at hc
    by_cases e : okV k s d = false ∨ h < 1 ∨ 12 < h
    · rw [if_pos e] at hc; cases hc
    · rw [if_neg e] at hc
      by_cases e2 : 1000 < v.length
      · rw [if_pos e2] at hc; cases hc
      · refine ⟨rfl, ?_, ?_, ?_, by omega⟩
        · cases o : okV k s d with
          | true => rfl
          | false => exact absurd (.inl o) e
        · have : ¬ h < 1 := fun o => e (.inr (.inl o)); omega
        · have : ¬ 12 < h := fun o => e (.inr (.inr o)); omega
theorem own_ad {w : World} {B : Nat} {e : TypeId} {size : Nat} {ad : Option Addr} {cap n : Nat} {xs : List Value} (h : Owns w B e size ad cap n xs) : (ad = none ∧ cap = 0) ∨ ∃ b off, ad = some ⟨b, off, none⟩ ∧ b < w.heap.size := by
  obtain ⟨_, _, _, ⟨e1, _, e2⟩ | ⟨g, cur, fr, e1, e2, e3, _⟩⟩ := h
  · exact .inl ⟨e1, e2⟩
  · exact .inr ⟨g, 0, e1, (Array.getElem?_eq_some_iff.1 e3).1⟩
theorem get_rank (v : Vr) : ∀ C : List Ce, (ci C)[rankI v (ci C)]? = ((C.dropWhile (aheadC v)).head?).map Ce.i
  | [] => rfl
  | c :: C => by
    have ih := get_rank v C
    have e : ci (c :: C) = c.i :: ci C := rfl
    have e2 : aheadC v c = vless c.i.vr v := rfl
    rw [e, rankI, List.dropWhile_cons, e2]
    cases h : vless c.i.vr v with
    | true => simpa using ih
    | false => simp
end Go.Proofs.Ytpaogoehgkoaeaa
/- A region that draws its order, with a ghost beside the world, as in Ghost; an operation also knows of those that the text lays ahead of it. No program is in sight here. -/
namespace Go.Proofs.Ytpaogoehgkoaeaa
set_option linter.unusedVariables false
set_option linter.unusedSimpArgs false
open Go.RowKit
section
variable {P : Program} {G : Type}
def ShownA (P : Program) (Le : World × G → World × G → Prop) (Pre : Nat → World × G → Prop) (ops : List Oper) (R : Nat → Value → World × G → Prop) (a0 : Act) (s0 : World × G) (i : Nat) (o : Oper) : Prop :=
  ∀ ρ w g, Ev ρ → (Le s0 (w, g) ∧ (∀ k, preB ops k i = true → Pre k (w, g)) ∧ ∀ d ∈ depsOf o, ∃ v, R d v (w, g)) → KnownAll ops (fun j v w' => R j v (w', g)) a0 o ρ w (readsOf ops o) →
    if wantedBy ops o ρ then growG P (LePg Le Pre i) (w, g) (R i) ((execOp ρ o).run P w) else R i undef (w, g)
def AllShownA (P : Program) (Le : World × G → World × G → Prop) (Pre : Nat → World × G → Prop) (ops : List Oper) (Rs : List (Value → World × G → Prop)) (a0 : Act) (s0 : World × G) : List Oper → Nat → Prop
  | [], _ => True
  | o :: r, i => ShownA P Le Pre ops (nthG Rs) a0 s0 i o ∧ AllShownA P Le Pre ops Rs a0 s0 r (i + 1)
theorem AllShownA.get {Le : World × G → World × G → Prop} {Pre : Nat → World × G → Prop} {ops : List Oper} {Rs : List (Value → World × G → Prop)} {a0 : Act} {s0 : World × G} : ∀ {l : List Oper} {k : Nat}, AllShownA P Le Pre ops Rs a0 s0 l k → ∀ i o, l[i]? = some o → ShownA P Le Pre ops (nthG Rs) a0 s0 (k + i) o
  | [], _, _, i, o, hi => by simp at hi
  | x :: r, k, h, 0, o, hi => by simp at hi; subst hi; exact h.1
  | x :: r, k, h, i + 1, o, hi => by
    have := h.2.get i o (by simpa using hi)
    rwa [show k + 1 + i = k + (i + 1) by omega] at this
theorem region_any_ghostA {Pre : Nat → World × G → Prop} {Le : World × G → World × G → Prop} (hrefl : ∀ s, Le s s) (htrans : ∀ a b c, Le a b → Le b c → Le a c) {id : Nat} {Q : Exit → Act → World → Prop} {a0 : Act} {w : World} (g0 : G) {l : List Oper} (n : Nat) (R : Nat → Value → World × G → Prop)
    (hm : P.follows .mixedOrders = true) (hB : anyB l n = true) (hn : a0.tmps.size = n) (hst : ∀ i v w1 w2, R i v w1 → Le w1 w2 → R i v w2)
    (hp0 : ∀ s, Pre s (w.drew, g0)) (hs : ∀ i o, l[i]? = some o → ShownA P Le Pre l R a0 (w.drew, g0) i o)
    (hfin : ∀ w1 g1 val, Le (w.drew, g0) (w1, g1) → (∀ i o, l[i]? = some o → ∃ v, R i v (w1, g1) ∧ (o.dst.isSome = true → val i = v)) → Q .normal (putAll val l 0 a0) w1) : (Code.region id l.toArray true).wp P Q a0 w := by
  have hsize : l.toArray.size = l.length := by simp
  have allL : ∀ (listed : Array Bool), listed.size = l.length → Region.ready .any l.toArray listed = [] → ∀ k, k < l.length → listed.getD k false = true := by
    intro listed hls hr k
    induction k using Nat.strongRecOn with
    | _ k ih =>
      intro hk
      cases hc : listed.getD k false with
      | true => rfl
      | false =>
        exfalso
        have hok := opOk_of hB (i := k) (o := l[k]) (by simp [hk])
        have hmem : k ∈ Region.ready .any l.toArray listed := by
          rw [mem_ready]
          refine ⟨?_, l[k], by simp [hk], fun e he hb => ?_⟩
          · have : k < listed.size := by omega
            simp [this] at hc ⊢; exact hc
          · have hd : e.on ∈ depsOf l[k] := by
              unfold depsOf
              rw [List.mem_filterMap]
              exact ⟨e, by simpa using he, by rw [hb]; rfl⟩
            simp only [opOk, Bool.and_eq_true, List.all_eq_true, decide_eq_true_eq] at hok
            have hlt := hok.1.1.2 _ hd
            exact ih _ hlt (by omega)
        rw [hr] at hmem
        cases hmem
  have fin : ∀ (listed : Array Bool) (a : Act) (w1 : World) (g1 : G), OnWayG Pre Le l R a0 (w.drew, g0) listed a w1 g1 → (∀ k, k < l.length → listed.getD k false = true) → Q .normal a w1 := by
    intro listed a w1 g1 inv hall
    have hval := hfin w1 g1 (fun j => match dstOf l j with | some d => a.tmps.getD d undef | none => undef) inv.le (fun i o hi => by
      obtain ⟨v, hv, he⟩ := inv.known i o hi (hall i (List.getElem?_eq_some_iff.1 hi).1)
      refine ⟨v, hv, fun hd => ?_⟩
      obtain ⟨d, hd⟩ := Option.isSome_iff_exists.1 hd
      have : dstOf l i = some d := by simp [dstOf, hi, hd]
      simp only [this]
      exact he d hd)
    have e : a = putAll (fun j => match dstOf l j with | some d => a.tmps.getD d undef | none => undef) l 0 a0 := by
      refine act_ext (by rw [putAll_size, inv.tmps]) (by rw [putAll_defers, inv.defers]) fun t => ?_
      by_cases ht : ∃ (j : Nat) (o : Oper), l[j]? = some o ∧ o.dst = some t
      · obtain ⟨j, o, hj, hd⟩ := ht
        have hok := opOk_of hB hj
        have htn : t < n := by
          simp only [opOk, hd, Bool.and_eq_true, decide_eq_true_eq] at hok
          exact hok.1.1.1.2.1
        rw [putAll_at _ t l 0 a0 j o hj hd (by rw [hn]; exact htn) (fun j' o' hj' hne hd' => by
          have hok' := opOk_of hB hj'
          simp only [opOk, Bool.and_eq_true, List.all_eq_true] at hok'
          have h2 := hok'.2 j (List.mem_range.2 (List.getElem?_eq_some_iff.1 hj).1)
          have hdj : dstOf l j = some t := by simp [dstOf, hj, hd]
          simp [hdj, hd', Ne.symm hne] at h2)]
        have hdj : dstOf l (0 + j) = some t := by simp [dstOf, hj, hd]
        simp only [hdj]
      · rw [putAll_other _ t l 0 a0 (fun o ho hd => ht (by
          obtain ⟨j, hj, e⟩ := List.getElem_of_mem ho
          exact ⟨j, o, by simp [hj, e], hd⟩))]
        exact inv.rest t (fun j o hj _ hd => ht ⟨j, o, hj, hd⟩)
    rw [e]; exact hval
  have key : ∀ (fuel : Nat) (listed : Array Bool) (a : Act) (w1 : World) (g1 : G), OnWayG Pre Le l R a0 (w.drew, g0) listed a w1 g1 → cnt (fun k => listed.getD k false) l.length ≤ fuel → wpAny P .any l.toArray Q fuel listed a w1 := by
    intro fuel
    induction fuel with
    | zero =>
      intro listed a w1 g1 inv hc
      have hall := cnt_zero (by omega : cnt (fun k => listed.getD k false) l.length = 0)
      refine ⟨?_, fin listed a w1 g1 inv hall⟩
      rw [List.eq_nil_iff_forall_not_mem]
      intro j hj
      obtain ⟨h1, o, ho, _⟩ := mem_ready.1 hj
      have hlt : j < l.length := by
        have := (Array.getElem?_eq_some_iff.1 ho).1
        simpa using this
      have h2 := hall j hlt
      have : j < listed.size := by rw [inv.size]; exact hlt
      simp [this] at h1 h2
      rw [h1] at h2; cases h2
    | succ fuel ih =>
      intro listed a w1 g1 inv hc
      refine ⟨fun hr => fin listed a w1 g1 inv (allL listed inv.size hr), fun i hi => ?_⟩
      obtain ⟨h1, o, ho, hdeps⟩ := mem_ready.1 hi
      have hio : l[i]? = some o := by simpa using ho
      have hlt : i < l.length := (List.getElem?_eq_some_iff.1 hio).1
      have hls : i < listed.size := by rw [inv.size]; exact hlt
      have hun : listed.getD i false = false := by simp [hls] at h1 ⊢; exact h1
      have hok := opOk_of hB hio
      have hdl : ∀ d ∈ depsOf o, listed.getD d false = true := by
        intro d hd
        unfold depsOf at hd
        obtain ⟨e, he, hb⟩ := List.mem_filterMap.1 hd
        split at hb
        · rename_i hbb
          cases hb
          exact hdeps e (by simpa using he) hbb
        · cases hb
      have hcnt : cnt (fun k => (listed.setIfInBounds i true).getD k false) l.length ≤ fuel := by
        have := cnt_set (f := fun k => listed.getD k false) (g := fun k => (listed.setIfInBounds i true).getD k false) (i := i) (n := l.length) hlt hun (fun k => by
          by_cases hk : i = k
          · subst hk; simp [hls]
          · have hk' : (k == i) = false := by simp; omega
            simp only [getD_set_ne false hk, hk', Bool.or_false])
        omega
      have hkn : ∀ t ∈ readsOf l o, knownOf l (fun j v w' => R j v (w', g1)) a0 o t (a.eval (.tmp t)) w1 := by
        intro t ht
        show knownOf l (fun j v w' => R j v (w', g1)) a0 o t (a.tmps.getD t undef) w1
        unfold knownOf
        cases hsrc : srcOf l o t with
        | some j =>
          have hj := List.mem_of_find?_eq_some hsrc
          have hjt := List.find?_some hsrc
          have hjd : dstOf l j = some t := by simpa using hjt
          unfold dstOf at hjd
          cases hlj : l[j]? with
          | none => simp [hlj] at hjd
          | some oj =>
            simp [hlj] at hjd
            obtain ⟨v, hv, he⟩ := inv.known j oj hlj (hdl j hj)
            show R j (a.tmps.getD t undef) (w1, g1)
            rw [he t hjd]; exact hv
        | none =>
          refine inv.rest t (fun j oj hlj hll hd => ?_)
          have hdj : dstOf l j = some t := by simp [dstOf, hlj, hd]
          have hne : j ≠ i := fun e => by subst e; rw [hun] at hll; cases hll
          simp only [opOk, Bool.and_eq_true, List.all_eq_true] at hok
          have h2 := hok.2 j (List.mem_range.2 (List.getElem?_eq_some_iff.1 hlj).1)
          simp only [hdj, hlj] at h2
          have ht' : (readsOf l o).contains t = true := by simpa using ht
          simp [hne, ht] at h2
          rcases h2.2 with h3 | h3
          · have := List.find?_eq_none.1 hsrc j h3
            simp [hdj] at this
          · have := inv.closed j oj hlj hll i h3
            rw [hun] at this; cases this
      have hpre : ∀ s, preB l s i = true → Pre s (w1, g1) := by
        intro s hb
        refine inv.pre s ?_
        cases hc : listed.getD s false with
        | false => rfl
        | true =>
          exfalso
          simp only [preB, Bool.or_eq_true, beq_iff_eq] at hb
          rcases hb with rfl | hb
          · rw [hun] at hc; cases hc
          · cases hos : l[s]? with
            | none => rw [hos] at hb; cases hb
            | some os =>
              rw [hos] at hb
              have := inv.closed s os hos hc i (by simpa using hb)
              rw [hun] at this; cases this
      have hafter : ∀ d ∈ depsOf o, ∃ v, R d v (w1, g1) := by
        intro d hd
        have hdl2 := hdl d hd
        have hlt2 : d < l.length := by
          simp only [opOk, Bool.and_eq_true, List.all_eq_true, decide_eq_true_eq] at hok
          exact Nat.lt_trans (hok.1.1.2 _ hd) hlt
        obtain ⟨v, hv, _⟩ := inv.known d l[d] (by simp [hlt2]) hdl2
        exact ⟨v, hv⟩
      have hsh := hs i o hio a.eval w1 g1 ⟨fun _ => rfl, fun _ => rfl, fun _ => rfl⟩ ⟨inv.le, hpre, hafter⟩ (KnownAll.of hkn)
      have hwant : Region.wanted o (yielded l.toArray a.tmps) = wantedBy l o a.eval := by
        unfold Region.wanted wantedBy
        cases o.guard with
        | none => rfl
        | some g => simp only [yielded_eq]; rfl
      have step : ∀ v w2 g2, LePg Le Pre i (w1, g1) (w2, g2) → R i v (w2, g2) → wpAny P .any l.toArray Q fuel (listed.setIfInBounds i true) (a.put o.dst v) w2 := by
        intro v w2 g2 hle2 hv
        have hle := hle2.1
        refine ih _ _ _ g2 ⟨by simp [inv.size], htrans _ _ _ inv.le hle, by rw [put_defers, inv.defers], by rw [put_size, inv.tmps], ?_, ?_, ?_, ?_⟩ hcnt
        · intro j oj hj hl d hd
          rcases listed_set hl with rfl | hl
          · rw [hio] at hj; cases hj
            exact getD_set_true (hdl d hd)
          · exact getD_set_true (inv.closed j oj hj hl d hd)
        · intro j oj hj hl
          rcases listed_set hl with rfl | hl2
          · rw [hio] at hj; cases hj
            refine ⟨v, hv, fun d hd => ?_⟩
            have hdn : d < n := by
              simp only [opOk, hd, Bool.and_eq_true, decide_eq_true_eq] at hok
              exact hok.1.1.1.2.1
            rw [hd, put_same _ _ _ (by rw [inv.tmps, hn]; exact hdn)]
          · by_cases hji : j = i
            · subst hji; rw [hun] at hl2; cases hl2
            · obtain ⟨v', hv', he'⟩ := inv.known j oj hj hl2
              refine ⟨v', hst j _ _ _ hv' hle, fun d hd => ?_⟩
              rw [put_other _ _ _ _ (fun hd' => by
                simp only [opOk, Bool.and_eq_true, List.all_eq_true] at hok
                have h2 := hok.2 j (List.mem_range.2 (List.getElem?_eq_some_iff.1 hj).1)
                have hdj : dstOf l j = some d := by simp [dstOf, hj, hd]
                simp [hdj, hd', hji] at h2)]
              exact he' d hd
        · intro s hns
          by_cases his : i = s
          · subst his; simp [hls] at hns
          · have hns2 : listed.getD s false = false := by
              rw [getD_set_ne false his] at hns; exact hns
            exact hle2.2 s (fun e => his e.symm) (inv.pre s hns2)
        · intro t ht
          have h1 : o.dst ≠ some t := ht i o hio (by simp [hls])
          rw [put_other _ _ _ _ h1]
          exact inv.rest t (fun j oj hj hl => ht j oj hj (getD_set_true hl))
      unfold wpOp
      simp only [ho, hwant]
      split
      · rename_i hw
        rw [hw] at hsh
        simp only [if_true] at hsh
        left
        unfold Oper.wp
        generalize (execOp a.eval o).run P w1 = r at hsh
        cases r with
        | halt x w' => exact hsh.elim
        | ok nx w' =>
          cases nx with
          | value v => obtain ⟨g2, h2, h3⟩ := hsh; exact step v w' g2 h2 h3
          | skip => obtain ⟨g2, h2, h3⟩ := hsh; exact step undef w' g2 h2 h3
          | enter f args => exact Calls.mono hsh fun e w'' ⟨v, g2, he, hle, hv⟩ => by subst he; exact step v w'' g2 hle hv
          | _ => exact hsh.elim
      · rename_i hw
        simp only [Bool.not_eq_true] at hw
        rw [hw] at hsh
        exact step undef w1 g1 ⟨hrefl _, fun _ _ h => h⟩ (by simpa using hsh)
  refine wp_region_any hm ?_
  refine key l.toArray.size (Array.replicate l.toArray.size false) a0 w.drew g0 ⟨by rw [Array.size_replicate, hsize], hrefl _, rfl, rfl, ?_, ?_, fun s _ => hp0 s, ?_⟩ ?_
  · intro j o _ hl; rw [getD_replicate_false'] at hl; cases hl
  · intro j o _ hl; rw [getD_replicate_false'] at hl; cases hl
  · intro t _; rfl
  · show cnt _ l.length ≤ l.toArray.size
    rw [hsize]; exact cnt_le _ _

theorem region_ghostA {Le : World × G → World × G → Prop} (Pre : Nat → World × G → Prop) (hrefl : ∀ s, Le s s) (htrans : ∀ a b c, Le a b → Le b c → Le a c) {id : Nat} {Q : Exit → Act → World → Prop} {a0 : Act} {w : World} (g0 : G) (hp0 : ∀ s, Pre s (w.drew, g0)) {l : List Oper} (n : Nat) (Rs : List (Value → World × G → Prop))
    (hm : P.follows .mixedOrders = true) (hB : anyB l n = true) (_ : true = true) (hlen : Rs.length = l.length) (hn : a0.tmps.size = n) (hst : AllStableG Le Rs)
    (hs : AllShownA P Le Pre l Rs a0 (w.drew, g0) l 0) (hfin : ∀ w1 g1 val, Le (w.drew, g0) (w1, g1) → HoldsG val (w1, g1) Rs 0 → Q .normal (putAll val l 0 a0) w1) : (Code.region id l.toArray true).wp P Q a0 w :=
  region_any_ghostA hrefl htrans g0 n (nthG Rs) hm hB hn (fun i v w1 w2 => hst.get i v w1 w2) hp0 (fun i o hi => by simpa using hs.get i o hi)
    (fun w1 g1 val hg h => by
      have hex : ∀ i, ∃ v, (i < l.length → nthG Rs i v (w1, g1)) ∧ ∀ o, l[i]? = some o → o.dst.isSome = true → val i = v := by
        intro i
        by_cases hi : i < l.length
        · obtain ⟨v, hv, he⟩ := h i l[i] (by simp [hi])
          exact ⟨v, fun _ => hv, fun o ho hd => by rw [List.getElem?_eq_getElem hi] at ho; cases ho; exact he hd⟩
        · exact ⟨undef, fun h => absurd h hi, fun o ho => by rw [List.getElem?_eq_none (by omega)] at ho; cases ho⟩
      obtain ⟨val2, h2⟩ := Classical.axiomOfChoice hex
      rw [putAll_congr (f := val) (g := val2) l 0 a0 fun i o hi hd => by rw [Nat.zero_add]; exact (h2 i).2 o hi hd]
      exact hfin w1 g1 val2 hg (HoldsG.of fun i hi => by rw [Nat.zero_add]; exact (h2 i).1 (by omega)))
end
end Go.Proofs.Ytpaogoehgkoaeaa
/- A region that draws its order and holds calls which store, one behind the other: a ghost counts those that are done. No program is in sight here. -/
namespace Go.Proofs.Ytpaogoehgkoaeaa
set_option linter.unusedVariables false
set_option linter.unusedSimpArgs false
open Go.RowKit
structure KInv (K : Nat → World → Prop) (m : Nat) (s : World × Nat) : Prop where
  le : s.2 ≤ m
  at_ : K s.2 s.1
structure KLe (T : Nat → Prop) (K : Nat → World → Prop) (m : Nat) (s s' : World × Nat) : Prop where
  ord : s.2 ≤ s'.2
  chg : Chg T s.1 s'.1
  inv : KInv K m s → KInv K m s'
def AtK (k : Nat) (s : World × Nat) : Prop := k ≤ s.2
def PreK (f : Nat → Nat) (k : Nat) (s : World × Nat) : Prop := s.2 ≤ f k
section
variable {P : Program} {T : Nat → Prop} {K : Nat → World → Prop} {m : Nat} {f : Nat → Nat}
theorem PreK.start {w : World} (k : Nat) : PreK f k (w, 0) := Nat.zero_le _
theorem KLe.refl (s : World × Nat) : KLe T K m s s := ⟨Nat.le_refl _, Chg.refl _, fun h => h⟩
theorem KLe.trans (a b c : World × Nat) (h : KLe T K m a b) (k : KLe T K m b c) : KLe T K m a c := ⟨Nat.le_trans h.ord k.ord, h.chg.trans k.chg (fun _ h => .inl h), fun x => k.inv (h.inv x)⟩
theorem AtK.stable (x : Value) (k : Nat) : StableG (KLe T K m) (IsS x (AtK k)) := fun _ _ _ ⟨e, h⟩ q => ⟨e, Nat.le_trans h q.ord⟩
/-- a call that moves on to the next stage -/
theorem enterK {i a : Nat} {fn : FuncId} {args : Array Value} {w' : World} {x : Value} (hf : ∀ k, k ≠ i → f k ≠ a) (hm : a + 1 ≤ m) (h : Calls P fn args w' fun e w'' => e = .returned x ∧ Chg T w' w'' ∧ K (a + 1) w'') :
    growG P (LePg (KLe T K m) (PreK f) i) (w', a) (IsS x (AtK (a + 1))) (.ok (.enter fn args) w') :=
  growG_enter (h.mono fun e w'' ⟨he, hc, hk⟩ => ⟨_, a + 1, he, ⟨⟨Nat.le_succ _, hc, fun _ => ⟨hm, hk⟩⟩, fun k hk hp => by
    have h1 := hf k hk
    unfold PreK at hp ⊢
    show a + 1 ≤ f k
    have : a ≤ f k := hp
    omega⟩, rfl, Nat.le_refl _⟩)
/-- a call that makes memory alone -/
theorem stayK {i a : Nat} {fn : FuncId} {args : Array Value} {w' : World} {x : Value} (hK : ∀ k w w', K k w → Gr w w' → K k w') (h : Calls P fn args w' fun e w'' => e = .returned x ∧ Gr w' w'') :
    growG P (LePg (KLe T K m) (PreK f) i) (w', a) (IsG x) (.ok (.enter fn args) w') :=
  growG_enter (h.mono fun e w'' ⟨he, hg⟩ => ⟨_, a, he, ⟨⟨Nat.le_refl _, hg.chg, fun q => ⟨q.le, hK _ _ _ q.at_ hg⟩⟩, fun k _ hp => hp⟩, rfl⟩)
/-- the same, of a value known by the stage it is called at -/
theorem stayS {i a : Nat} {fn : FuncId} {args : Array Value} {w' : World} {x : Value} {p : World × Nat → Prop} (hK : ∀ k w w', K k w → Gr w w' → K k w') (hp : ∀ w'', Gr w' w'' → p (w'', a)) (h : Calls P fn args w' fun e w'' => e = .returned x ∧ Gr w' w'') :
    growG P (LePg (KLe T K m) (PreK f) i) (w', a) (IsS x p) (.ok (.enter fn args) w') :=
  growG_enter (h.mono fun e w'' ⟨he, hg⟩ => ⟨_, a, he, ⟨⟨Nat.le_refl _, hg.chg, fun q => ⟨q.le, hK _ _ _ q.at_ hg⟩⟩, fun k _ hp => hp⟩, rfl, hp _ hg⟩)
end
end Go.Proofs.Ytpaogoehgkoaeaa
/- Layer 11 (skip): a list and the reference's beside it; a cursor is made. -/
namespace Go.Proofs.Ytpaogoehgkoaeaa
set_option linter.unusedVariables false
set_option linter.unusedSimpArgs false
open Go.RowKit Ikey Varint
theorem Cursor_any (gl : Nat) (w : World) :
    Calls Try.prog 9 #[.pointer (some ⟨gl, 0, none⟩)] w fun e w' => e = .returned (.pointer (some ⟨w.heap.size, 0, none⟩)) ∧ Blk w' w.heap.size 84 (curV gl 0 (0, 0)) ∧ Gr w w' := by
  go_enter Try.func9, Try.ntmps9
  go_wp2
  go_ret
  exact ⟨rfl, Blk.new w _ _, Gr.alloc _ _⟩
theorem Cursor_nil (w : World) : Calls Try.prog 9 #[.pointer none] w fun e w' => e = .returned (.pointer none) ∧ w = w' := by
  go_enter Try.func9, Try.ntmps9
  go_wp2
  go_ret
  exact ⟨rfl, rfl⟩
theorem Sl.chg {w0 w w' : World} {S T : Nat → Prop} {g gl : Nat} {p : PoolF} {L : Ls} {N : List Nd} (h : Sl w0 w S g gl p L N) (k : Chg T w w') (hd : ∀ j, S j → ¬ T j) (hl : ¬ T gl) (hb : ∀ j, T j → w0.heap.size ≤ j) : Sl w0 w' S g gl p L N :=
  ⟨⟨h.sk.pool.chg k hd, h.sk.ok, k.blk h.sk.blk hl, h.sk.out⟩, h.st, h.full, h.cnt, h.wt, h.fd, k.gr h.gr hb, h.base, h.bl⟩
/-- what may change: what came since, but blocks of X -/
def Tt (w0 : World) (X : Nat → Prop) : Nat → Prop := fun j => w0.heap.size ≤ j ∧ ¬ X j
theorem ins_len (C : List Ce) (fz : Bool) (k : List UInt8) (s d : Int) (v : List UInt8) (h : Int) : (insF C fz k s d v h).2.length ≤ C.length + 1 := by
  have hsp : (C.takeWhile (aheadC ⟨k, s, d⟩)).length + (C.dropWhile (aheadC ⟨k, s, d⟩)).length = C.length := by rw [← List.length_append, List.takeWhile_append_dropWhile]
  unfold insF
  split
  · exact Nat.le_succ _
  · split
    · rename_i e
      rw [e] at hsp
      simp at hsp ⊢
      omega
    · rename_i e
      rw [e] at hsp
      split
      · exact Nat.le_succ _
      · simp at hsp ⊢
        omega
section
variable {w0 w w' : World} {X S : Nat → Prop} {g gl gm : Nat} {p : PoolF} {L : Ls} {N : List Nd} {C : List Ce} {ad : Option Addr} {cap gc : Nat} {side side' : Int} {q q' : Nat × Nat}
end
theorem lastN_zero {A : List Nd} {y : Nd} (h : 0 < y.h) : lastN 0 (A ++ [y]) = some y := lastN_split h (by simp)
end Go.Proofs.Ytpaogoehgkoaeaa
/- Layer 11 (skip): what a cursor's calls tell, beside the reference's list. -/
namespace Go.Proofs.Ytpaogoehgkoaeaa
set_option linter.unusedVariables false
set_option linter.unusedSimpArgs false
open Go.RowKit Ikey Varint
theorem first_head {B : List Nd} (h : ∀ x ∈ B, 0 < x.h) : firstN 0 B = B.head? := firstN_zero h
theorem last_get {A : List Nd} (h : ∀ x ∈ A, 0 < x.h) : lastN 0 A = A.getLast? := by
  rcases List.eq_nil_or_concat A with rfl | ⟨A', y, rfl⟩
  · rfl
  · rw [List.concat_eq_append] at h ⊢
    rw [lastN_zero (h y (by simp)), List.getLast?_concat]
section
variable {w0 w : World} {X S : Nat → Prop} {g gl gm : Nat} {p : PoolF} {L : Ls} {N : List Nd} {C : List Ce} {ad : Option Addr} {cap gc : Nat} {side : Int} {q : Nat × Nat}
theorem Sl.pos (h : Sl w0 w S g gl p L N) : ∀ x ∈ N, 0 < x.h := fun x hx => by
  have h1 := (h.st.node x hx).1.t1
  have h2 := h.full x hx
  omega
/-- where a cursor stands: ahead of all, at a node, behind all -/
def nextE (N : List Nd) (side : Int) (b : List Nd) : Option Nd := if side = 0 then N.head? else if side = 2 then none else b.head?
end
end Go.Proofs.Ytpaogoehgkoaeaa
/- Layer 11 (skip): a cursor that goes forth and back. -/
namespace Go.Proofs.Ytpaogoehgkoaeaa
set_option linter.unusedVariables false
set_option linter.unusedSimpArgs false
open Go.RowKit Ikey Varint
/-- so many steps were gone forth -/
def Fw (N : List Nd) (j : Nat) (side : Int) (q : Nat × Nat) : Prop := (j = 0 ∧ side = 0) ∨ ∃ (a b : List Nd) (x : Nd), N = a ++ x :: b ∧ j = a.length + 1 ∧ side = 1 ∧ q = (x.off, x.size)
/-- so many nodes lie ahead -/
def Bw (N : List Nd) (k : Nat) (side : Int) (q : Nat × Nat) : Prop := (k = N.length ∧ side = 2) ∨ ∃ (a b : List Nd) (x : Nd), N = a ++ x :: b ∧ k = a.length ∧ side = 1 ∧ q = (x.off, x.size)
section
variable {w0 w : World} {X S : Nat → Prop} {g gl gm : Nat} {p : PoolF} {L : Ls} {N : List Nd} {C : List Ce} {ad : Option Addr} {cap gc : Nat} {side : Int} {q : Nat × Nat}
end
theorem Fw.step {N a b : List Nd} {x : Nd} (hN : N = a ++ x :: b) : Fw N (a.length + 1) 1 (x.off, x.size) := .inr ⟨a, b, x, hN, rfl, rfl, rfl⟩
theorem Bw.step {N a b : List Nd} {x : Nd} (hN : N = a ++ x :: b) : Bw N a.length 1 (x.off, x.size) := .inr ⟨a, b, x, hN, rfl, rfl, rfl⟩
theorem nd_split {N : List Nd} {j : Nat} (h : j < N.length) : ∃ a x b, N = a ++ x :: b ∧ a.length = j :=
  ⟨N.take j, N[j], N.drop (j + 1), by rw [← List.drop_eq_getElem_cons h, List.take_append_drop], by rw [List.length_take]; omega⟩
theorem nd_get {N a b : List Nd} {x : Nd} (h : N = a ++ x :: b) : (cellsN N)[a.length]? = some x.c := by rw [h]; simp [cellsN]
end Go.Proofs.Ytpaogoehgkoaeaa
/- The statements through the layers: a list in a pool of its own, freed, and another one behind it. -/
namespace Go.Proofs.Ytpaogoehgkoaeaa
set_option linter.unusedVariables false
set_option linter.unusedSimpArgs false
open Go.RowKit Ikey Varint
theorem filter_both {α : Type} (f : α → Bool) : ∀ l : List α, (l.filter f).length + (l.filter fun x => !f x).length = l.length
  | [] => rfl
  | x :: l => by
    have := filter_both f l
    cases h : f x <;> simp [h] <;> omega
/-- how many are taken: as many as are in a list that has just the taken ones -/
theorem count_list {p : PoolF} (hp : PoolOk p) {l : List Nat} (hn : l.Nodup) (hm : ∀ s, s < p.bytes.length → (s ∈ l ↔ p.taken.getD s false = true)) (hl : ∀ s ∈ l, s < p.bytes.length) : countF p + l.length = p.bytes.length := by
  have e1 : p.taken = (List.range p.taken.length).map fun s => p.taken.getD s false := by
    apply List.ext_getElem?
    intro i
    by_cases hi : i < p.taken.length
    · simp [hi]
    · rw [List.getElem?_eq_none (by omega), List.getElem?_eq_none (by simp; omega)]
  have e2 : countF p = ((List.range p.taken.length).filter fun s => !(p.taken.getD s false)).length := by
    unfold countF
    conv => lhs; rw [e1]
    rw [List.filter_map, List.length_map]
    rfl
  have e3 := filter_both (fun s => p.taken.getD s false) (List.range p.taken.length)
  have e4 : ((List.range p.taken.length).filter fun s => p.taken.getD s false).length = l.length := by
    apply List.Perm.length_eq
    refine (List.perm_ext_iff_of_nodup (List.nodup_range.filter _) hn).2 fun s => ?_
    rw [List.mem_filter, List.mem_range, hp.tk]
    constructor
    · rintro ⟨h1, h2⟩; exact (hm s h1).2 h2
    · intro h; exact ⟨hl s h, (hm s (hl s h)).1 h⟩
  rw [List.length_range, hp.tk] at e3
  rw [hp.tk] at e4 e2
  rw [e2]
  omega
theorem count_all {p : PoolF} (hp : PoolOk p) (h : ∀ j, (landAt p j).slabs = []) : countF p = p.bytes.length := by
  have := count_list hp (l := []) List.nodup_nil (fun s hs => ⟨fun e => by simp at e, fun e => by
    obtain ⟨j, hj, hm⟩ := (hp.has s hs).1 e
    rw [h j] at hm
    exact hm⟩) (fun s hs => by simp at hs)
  simpa using this
/-- a list is freed -/
theorem Sl.free {w0 w : World} {S : Nat → Prop} {g gl : Nat} {p : PoolF} {L : Ls} {N : List Nd} (h : Sl w0 w S g gl p L N) :
    ∃ p', (Calls Try.prog 11 #[.pointer (some ⟨gl, 0, none⟩)] w fun e w' => e = .returned (.int .i64 0) ∧ Sk w' S g gl p' { L with fd := true } ∧ Chg (fun j => S j ∨ j = gl) w w') ∧
      p'.size = p.size ∧ p'.bytes.length = p.bytes.length ∧ landAt p' L.r = ⟨false, (landAt p L.r).gen, [], 0⟩ ∧ (∀ j, j ≠ L.r → landAt p' j = landAt p j) ∧ ∀ x j o l, Pc p x j o l → j ≠ L.r → Pc p' x j o l ∧ loadF p' x = loadF p x := by
  obtain ⟨p', h1, h2, h3, h4, h5, _, _, _, h9⟩ := free_pcs h.sk.ok h.st.hr h.st.there
  exact ⟨p', Free_live w S g gl p p' L h.sk h.fd h1, h2, h3, h4, h5, h9⟩
def poolP (a n : Nat) : PoolF := makeAt (newF a n) 0
theorem poolP_make (a n : Nat) : makeR (newF a n) = (0, 0, poolP a n) := by
  have h : makeF (newF a n) = some 0 := makeF_is (by decide) (by rw [landAt_new]; rfl) (fun j hj => absurd hj (Nat.not_lt_zero j))
  unfold makeR
  rw [h]
  rfl
theorem landAt_poolP (a n j : Nat) : landAt (poolP a n) j = if 0 = j then ⟨true, 1, [], 0⟩ else noLand := by
  unfold poolP makeAt
  rw [landAt_set _ _ _ _ (by show 0 < (List.replicate 256 noLand).length; rw [List.length_replicate]; decide), landAt_new]
  split <;> first | rfl | exact landAt_new _ _ _
theorem countF_poolP (a n : Nat) : countF (poolP a n) = n := by
  show ((List.replicate n false).filter (!·)).length = n
  rw [List.filter_replicate]
  simp
theorem drop_all {α : Type} {p : α → Bool} : ∀ {l : List α}, (∀ x ∈ l, p x = true) → l.dropWhile p = []
  | [], _ => rfl
  | x :: l, h => by
    rw [List.dropWhile_cons, h x List.mem_cons_self, if_pos rfl]
    exact drop_all fun y hy => h y (List.mem_cons_of_mem _ hy)
/-- the next one in the order of a list -/
theorem ins_asc {C : List Ce} {A : List Ci} {c : Ci} (hC : ci C = A) (hA : ∀ x ∈ A, AscI x c) (hc : okT c = true) {t : Int} (h1 : 1 ≤ t) (h2 : t ≤ 12) :
    (insF C false c.key c.seq c.kind c.val t).1 = 0 ∧ ci (insF C false c.key c.seq c.kind c.val t).2 = A ++ [c] := by
  unfold okT at hc
  rw [Bool.and_eq_true, decide_eq_true_eq] at hc
  obtain ⟨ho, hv⟩ := hc
  obtain ⟨_, _, k1, k2, k3⟩ := okV_of ho
  have hd : C.dropWhile (aheadC ⟨c.key, c.seq, c.kind⟩) = [] := by
    refine drop_all fun x hx => ?_
    exact hA x.i (by rw [← hC]; exact List.mem_map_of_mem hx)
  have ht : C.takeWhile (aheadC ⟨c.key, c.seq, c.kind⟩) = C := by
    have := List.takeWhile_append_dropWhile (p := aheadC ⟨c.key, c.seq, c.kind⟩) (l := C)
    rw [hd, List.append_nil] at this
    exact this
  have hk : chkI false false c.key c.seq c.kind c.val t = 0 := by
    unfold chkI
    rw [if_neg (by simp), if_neg (by rw [ho]; simp; omega), if_neg (by omega)]
  unfold insF
  rw [if_neg (by rw [hk]; simp), hd, ht]
  refine ⟨rfl, ?_⟩
  unfold ci at hC ⊢
  rw [List.map_append, hC, List.map_singleton]
  obtain ⟨k, s, d, v⟩ := c
  simp only at k1 k2 k3
  unfold Ce.i
  simp only
  rw [Int.toNat_of_nonneg (by omega), Int.toNat_of_nonneg (by omega)]
structure Ps0 (p : PoolF) (gen : Nat) : Prop where
  len : p.bytes.length = 60
  size : p.size = 4096
  gen : (landAt p 0).gen = gen
  rest : ∀ j, j ≠ 0 → landAt p j = noLand
/-- a list of these cells; blocks of X are none of its -/
def One (w0 : World) (X : Nat → Prop) (g gl n gen : Nat) (A : List Ci) (w : World) : Prop :=
  ∃ S p L N, Sl w0 w S g gl p L N ∧ ci (cellsN N) = A ∧ L.fz = false ∧ L.r = 0 ∧ n ≤ countF p ∧ Ps0 p gen ∧ ∀ j, X j → j < w.heap.size ∧ ¬ S j ∧ j ≠ gl ∧ w0.heap.size ≤ j
section
variable {w0 w w' : World} {X : Nat → Prop} {g gl gk n gen : Nat} {A : List Ci}
theorem One.gr (h : One w0 X g gl n gen A w) : Gr w0 w := by
  obtain ⟨S, p, L, N, h1, _⟩ := h
  exact h1.gr
theorem One.more (h : One w0 X g gl n gen A w) (k : Gr w w') : One w0 X g gl n gen A w' := by
  obtain ⟨S, p, L, N, h1, h2, h3, h4, h5, h6, h7⟩ := h
  exact ⟨S, p, L, N, h1.more k, h2, h3, h4, h5, h6, fun j hj => ⟨Nat.lt_of_lt_of_le (h7 j hj).1 k.size, (h7 j hj).2⟩⟩
theorem One.lay (h : One w0 X g gl n gen A w) (k : Gr w w') (hl : w.heap.size < w'.heap.size) : One w0 (fun j => X j ∨ j = w.heap.size) g gl n gen A w' := by
  obtain ⟨S, p, L, N, h1, h2, h3, h4, h5, h6, h7⟩ := h
  refine ⟨S, p, L, N, h1.more k, h2, h3, h4, h5, h6, fun j hj => ?_⟩
  rcases hj with hj | rfl
  · exact ⟨Nat.lt_of_lt_of_le (h7 j hj).1 k.size, (h7 j hj).2⟩
  · exact ⟨hl, fun e => Nat.lt_irrefl _ (h1.sk.pool.lt _ e), fun e => by have := h1.sk.blk.lt; omega, h1.gr.size⟩
theorem One.other (h : One w0 X g gl n gen A w) {b : Nat} (hb : X b) (k : Chg (fun j => j = b) w w') : One w0 X g gl n gen A w' := by
  obtain ⟨S, p, L, N, h1, h2, h3, h4, h5, h6, h7⟩ := h
  obtain ⟨b1, b2, b3, b4⟩ := h7 b hb
  exact ⟨S, p, L, N, h1.chg k (fun j hj e => b2 (by rw [← e]; exact hj)) (fun e => b3 e.symm) (fun j e => by rw [e]; exact b4), h2, h3, h4, h5, h6, fun j hj => ⟨Nat.lt_of_lt_of_le (h7 j hj).1 k.size, (h7 j hj).2⟩⟩
theorem One.ins (h : One w0 X g gl (n + 1) gen A w) {c : Ci} (hA : ∀ x ∈ A, AscI x c) (hc : okT c = true) {t : Int} (h1 : 1 ≤ t) (h2 : t ≤ 12) (hl : A.length ≤ 1000) :
    Calls Try.prog 8 #[.pointer (some ⟨gl, 0, none⟩), .agg #[.string (str c.key), .int .i64 c.seq, .int .i64 c.kind, .string (str c.val)], .int .i64 t] w fun e w' => e = .returned (.int .i64 0) ∧ One w0 X g gl n gen (A ++ [c]) w' ∧ ∀ j, X j → w'.heap[j]? = w.heap[j]? := by
  obtain ⟨S, p, L, N, k1, k2, k3, k4, k5, k6, k7⟩ := h
  have hv : c.val.length ≤ 1000 := by
    unfold okT at hc
    rw [Bool.and_eq_true, decide_eq_true_eq] at hc
    exact hc.2
  have hN : N.length ≤ 1000 := by
    have := congrArg List.length k2
    rw [ci_len] at this
    simp only [cellsN, List.length_map] at this
    omega
  have hi := ins_asc k2 hA hc h1 h2
  have := Insert_sl k1 c.key c.seq c.kind c.val t (by omega) (by omega) hN
  rw [k3, hi.1] at this
  refine this.mono ?_
  rintro e w' ⟨he, p', S', L', N', s1, s2, s3, s4, s5, s6, s7, s8, s9⟩
  rw [k4] at s7
  refine ⟨he, ⟨S', p', L', N', s1, by rw [s2]; exact hi.2, s5, s6.trans k4, by omega, ⟨s7.len.trans k6.len, s7.size.trans k6.size, s7.gen.trans k6.gen, fun j hj => (s7.land j hj).trans (k6.rest j hj)⟩, fun j hj => ?_⟩, fun j hj => ?_⟩
  · obtain ⟨a1, a2, a3, a4⟩ := k7 j hj
    exact ⟨Nat.lt_of_lt_of_le a1 s9.chg.size, fun e => (s9.sub _ e).elim a2 (fun e => by omega), a3, a4⟩
  · obtain ⟨a1, a2, a3, a4⟩ := k7 j hj
    exact s9.chg.block j a1 (fun e => e.elim a2 a3)
theorem One.first (h : One w0 X g gl n gen A w) {side : Int} {q : Nat × Nat} (hc : Blk w gk 84 (curV gl side q)) (hx : X gk) :
    Calls Try.prog 10 #[.pointer (some ⟨gk, 0, none⟩)] w fun e w' => (∃ n : Int, e = .returned (.int .i64 n)) ∧ One w0 X g gl n gen A w' ∧ ∃ side q, Blk w' gk 84 (curV gl side q) := by
  have hh := h
  obtain ⟨S, p, L, N, h1, _⟩ := h
  refine (First_sl h1 hc).mono ?_
  rintro e w' ⟨he, hb, hch⟩
  exact ⟨⟨_, he⟩, hh.other hx hch, _, _, hb⟩
/-- a pool whose list is freed -/
def Fr (w0 : World) (X : Nat → Prop) (g gl gen : Nat) (w : World) : Prop :=
  ∃ S p L, Sk w S g gl p L ∧ L.fd = true ∧ countF p = 60 ∧ Ps0 p gen ∧ (landAt p 0).there = false ∧ Gr w0 w ∧ (∀ j, S j → w0.heap.size ≤ j) ∧ w0.heap.size ≤ gl ∧ ∀ j, X j → j < w.heap.size ∧ ¬ S j ∧ j ≠ gl ∧ w0.heap.size ≤ j
theorem One.free (h : One w0 X g gl n gen A w) :
    Calls Try.prog 11 #[.pointer (some ⟨gl, 0, none⟩)] w fun e w' => e = .returned (.int .i64 0) ∧ Fr w0 X g gl gen w' ∧ ∀ j, X j → w'.heap[j]? = w.heap[j]? := by
  obtain ⟨S, p, L, N, h1, h2, h3, h4, h5, h6, h7⟩ := h
  obtain ⟨p', hc, k1, k2, k3, k4, k5⟩ := h1.free
  rw [h4] at k3 k4
  refine hc.mono ?_
  rintro e w' ⟨he, hs, hch⟩
  refine ⟨he, ⟨S, p', _, hs, rfl, ?_, ⟨k2.trans h6.len, k1.trans h6.size, by rw [k3]; exact h6.gen, fun j hj => (k4 j hj).trans (h6.rest j hj)⟩, by rw [k3], hch.gr h1.gr (fun j hj => hj.elim (h1.base j) (fun e => by rw [e]; exact h1.bl)), h1.base, h1.bl, fun j hj => ⟨Nat.lt_of_lt_of_le (h7 j hj).1 hch.size, (h7 j hj).2⟩⟩, fun j hj => hch.block j (h7 j hj).1 (fun e => e.elim (h7 j hj).2.1 (h7 j hj).2.2.1)⟩
  rw [count_all hs.ok (fun j => by
    by_cases e : j = 0
    · rw [e, k3]
    · rw [k4 j e, h6.rest j e]; rfl), k2, h6.len]
theorem Fr.idle (h : Fr w0 X g gl gen w) : Calls Try.prog 12 #[.pointer (some ⟨g, 0, none⟩)] w fun e w' => e = .returned (.int .i64 60) ∧ w = w' := by
  obtain ⟨S, p, L, h1, h2, h3, _⟩ := h
  have := Idle_any w S g p h1.pool h1.ok
  rw [h3] at this
  exact this
theorem Fr.gr (h : Fr w0 X g gl gen w) : Gr w0 w := by
  obtain ⟨S, p, L, h1, h2, h3, h4, h5, h6, _⟩ := h
  exact h6
/-- another list in the pool; the freed one's blocks stay -/
theorem Fr.new (h : Fr w0 X g gl gen w) (hg : gen ≤ 1000) :
    Calls Try.prog 7 #[.pointer (some ⟨g, 0, none⟩)] w fun e w' => ∃ gl2, e = .returned (.tuple #[.pointer (some ⟨gl2, 0, none⟩), .int .i64 0]) ∧ One w0 (fun j => X j ∨ j = gl) g gl2 60 (gen + 1) [] w' ∧ (∃ L, Blk w' gl 65 (lstV g L) ∧ L.fd = true) ∧ ∀ j, X j → w'.heap[j]? = w.heap[j]? := by
  obtain ⟨S, p, L, h1, h2, h3, h4, h5, h6, h7, h8, h9⟩ := h
  have hm : makeR p = (0, 0, makeAt p 0) := by
    have e : makeF p = some 0 := makeF_is (by decide) h5 (fun j hj => absurd hj (Nat.not_lt_zero j))
    unfold makeR
    rw [e]
  have hl0 : ∀ j, landAt (makeAt p 0) j = if 0 = j then ⟨true, (landAt p 0).gen + 1, [], 0⟩ else landAt p j := fun j => by
    unfold makeAt
    rw [landAt_set _ _ _ _ (by rw [h1.ok.ln]; decide)]
  have hok : PoolOk (makeAt p 0) := by
    have := make_ok2 h1.ok
    rw [hm] at this
    exact this
  refine (New_list w S g p (makeAt p 0) 0 h1.pool h1.ok (fun i _ => ?_) (by rw [h4.size]; decide) hm).mono ?_
  · by_cases e : i = 0
    · rw [e, h4.gen]; omega
    · rw [h4.rest i e]; decide
  · rintro e w' ⟨gl2, he, hmv, hb, hz, hn⟩
    have hlt := h1.blk.lt
    have hX : ∀ j, X j → w'.heap[j]? = w.heap[j]? := fun j hj => hmv.chg.block j (h9 j hj).1 (h9 j hj).2.1
    refine ⟨gl2, he, ⟨S, makeAt p 0, newL 0, [], ⟨⟨hmv.pool, hok, hb, hn⟩, ⟨by decide, by rw [hl0]; rfl, by show 2048 ≤ p.size; rw [h4.size]; decide, fun _ _ => rfl, fun x hx => by simp at hx, fun a x b e => by simp at e, List.Pairwise.nil, List.Pairwise.nil⟩, fun x hx => by simp at hx, rfl, rfl, rfl, hmv.chg.gr h6 h7, h7, Nat.le_trans h6.size hz⟩, rfl, rfl, rfl, ?_, ⟨h4.len, h4.size, by rw [hl0, if_pos rfl]; show (landAt p 0).gen + 1 = gen + 1; rw [h4.gen], fun j hj => by rw [hl0, if_neg (fun e => hj e.symm)]; exact h4.rest j hj⟩, fun j hj => ?_⟩, ⟨L, hmv.chg.blk h1.blk h1.out, h2⟩, hX⟩
    · show 60 ≤ countF p
      omega
    · rcases hj with hj | rfl
      · obtain ⟨a1, a2, a3, a4⟩ := h9 j hj
        exact ⟨Nat.lt_of_lt_of_le a1 hmv.chg.size, a2, fun e => by omega, a4⟩
      · exact ⟨Nat.lt_of_lt_of_le hlt hmv.chg.size, h1.out, fun e => by omega, h8⟩
/-- a pool and an empty list in it -/
theorem one_new {w1 : World} (k : Gr w0 w1) {S : Nat → Prop} (P : Pl w0 w1 S g (newF 4096 60)) :
    Calls Try.prog 7 #[.pointer (some ⟨g, 0, none⟩)] w1 fun e w' => ∃ gl, e = .returned (.tuple #[.pointer (some ⟨gl, 0, none⟩), .int .i64 0]) ∧ One w0 (fun _ => False) g gl 60 1 [] w' := by
  refine (New_list w1 S g (newF 4096 60) (poolP 4096 60) 0 P.pool P.ok (fun i _ => by rw [landAt_new]; decide) (by decide) (poolP_make 4096 60)).mono ?_
  rintro e w' ⟨gl, he, hmv, hb, hz, hn⟩
  have hok : PoolOk (poolP 4096 60) := by
    have := make_ok2 P.ok
    rw [poolP_make] at this
    exact this
  refine ⟨gl, he, S, poolP 4096 60, newL 0, [], ⟨⟨hmv.pool, hok, hb, hn⟩, ⟨by decide, by rw [landAt_poolP]; rfl, by decide, fun _ _ => rfl, fun x hx => by simp at hx, fun a x b e => by simp at e, List.Pairwise.nil, List.Pairwise.nil⟩, fun x hx => by simp at hx, rfl, rfl, rfl, hmv.chg.gr k P.base, P.base, Nat.le_trans k.size hz⟩, rfl, rfl, rfl, by rw [countF_poolP]; exact Nat.le_refl _, ⟨by show (List.replicate 60 _).length = 60; rw [List.length_replicate], rfl, by rw [landAt_poolP]; rfl, fun j hj => by rw [landAt_poolP, if_neg (fun e => hj e.symm)]⟩, fun j hj => hj.elim⟩
/-- a cursor on its way -/
def Way (w0 : World) (X : Nat → Prop) (g gl gm gen : Nat) (A : List Ci) (j : Nat) (w : World) : Prop :=
  ∃ S p L N side q, Sl w0 w S g gl p L N ∧ ci (cellsN N) = A ∧ L.fz = false ∧ L.r = 0 ∧ Ps0 p gen ∧ (∀ j, X j → j < w.heap.size ∧ ¬ S j ∧ j ≠ gl ∧ w0.heap.size ≤ j) ∧ Blk w gm 84 (curV gl side q) ∧ Fw N j side q ∧ X gm
theorem Way.start (h : One w0 X g gl n gen A w) (hb : Blk w gk 84 (curV gl 0 (0, 0))) (hx : X gk) : Way w0 X g gl gk gen A 0 w := by
  obtain ⟨S, p, L, N, h1, h2, h3, h4, h5, h6, h7⟩ := h
  exact ⟨S, p, L, N, _, _, h1, h2, h3, h4, h6, h7, hb, .inl ⟨rfl, rfl⟩, hx⟩
theorem Way.one {j : Nat} (h : Way w0 X g gl gk gen A j w) : One w0 X g gl 0 gen A w := by
  obtain ⟨S, p, L, N, side, q, h1, h2, h3, h4, h5, h6, h7, h8, h9⟩ := h
  exact ⟨S, p, L, N, h1, h2, h3, h4, Nat.zero_le _, h5, h6⟩
theorem Way.more {j : Nat} (h : Way w0 X g gl gk gen A j w) (k : Gr w w') : Way w0 X g gl gk gen A j w' := by
  obtain ⟨S, p, L, N, side, q, h1, h2, h3, h4, h5, h6, h7, h8, h9⟩ := h
  exact ⟨S, p, L, N, side, q, h1.more k, h2, h3, h4, h5, fun j hj => ⟨Nat.lt_of_lt_of_le (h6 j hj).1 k.size, (h6 j hj).2⟩, h7.gr k, h8, h9⟩
theorem Way.next {j : Nat} (h : Way w0 X g gl gk gen A j w) (hj : j < A.length) :
    Calls Try.prog 14 #[.pointer (some ⟨gk, 0, none⟩)] w fun e w' => e = .returned (.int .i64 0) ∧ Way w0 X g gl gk gen A (j + 1) w' ∧ Chg (fun i => i = gk) w w' := by
  obtain ⟨S, p, L, N, side, q, h1, h2, h3, h4, h5, h6, h7, h8, h9⟩ := h
  have hl : N.length = A.length := by rw [← h2, ci_len]; simp [cellsN]
  obtain ⟨a, x, b, hN, ha⟩ := nd_split (by omega : j < N.length)
  obtain ⟨b1, b2, b3, b4⟩ := h6 _ h9
  have fin : ∀ e w', e = Ending.returned (.int .i64 0) ∧ Blk w' gk 84 (curV gl 1 (x.off, x.size)) ∧ Chg (fun i => i = gk) w w' → e = Ending.returned (.int .i64 0) ∧ Way w0 X g gl gk gen A (j + 1) w' ∧ Chg (fun i => i = gk) w w' := by
    rintro e w' ⟨he, hb, k⟩
    refine ⟨he, ⟨S, p, L, N, 1, (x.off, x.size), h1.chg k (fun i hi e => b2 (by rw [← e]; exact hi)) (fun e => b3 e.symm) (fun i e => by rw [e]; exact b4), h2, h3, h4, h5, fun i hi => ⟨Nat.lt_of_lt_of_le (h6 i hi).1 k.size, (h6 i hi).2⟩, hb, ?_, h9⟩, k⟩
    rw [← ha]
    exact Fw.step hN
  rcases h8 with ⟨rfl, rfl⟩ | ⟨a', b', y, e1, e2, rfl, rfl⟩
  · obtain rfl : a = [] := List.eq_nil_of_length_eq_zero ha
    have := Next_front h1 h7
    rw [first_head h1.pos, show N.head? = some x by rw [hN]; rfl] at this
    exact this.mono fin
  · have e4 : a' ++ [y] = a ∧ b' = x :: b := by
      have e3 : (a' ++ [y]) ++ b' = a ++ x :: b := by rw [← hN, e1]; simp
      exact List.append_inj e3 (by simp; omega)
    have := Next_at h1 e1 h7
    rw [first_head (fun z hz => h1.pos z (by rw [e1]; simp [hz])), show b'.head? = some x by rw [e4.2]; rfl] at this
    exact this.mono fin
theorem Way.cell {j : Nat} (h : Way w0 X g gl gk gen A (j + 1) w) (hj : j < A.length) :
    Calls Try.prog 13 #[.pointer (some ⟨gk, 0, none⟩)] w fun e w' => e = .returned (.tuple #[.agg #[.string (str A[j].key), .int .i64 A[j].seq, .int .i64 A[j].kind, .string (str A[j].val)], .int .i64 0]) ∧ Gr w w' := by
  obtain ⟨S, p, L, N, side, q, h1, h2, h3, h4, h5, h6, h7, h8, h9⟩ := h
  rcases h8 with ⟨e, _⟩ | ⟨a, b, x, hN, e2, rfl, rfl⟩
  · omega
  · have hx : A[j] = x.c.i := by
      have h10 := nd_get hN
      have h11 : A[j]? = some x.c.i := by
        rw [← h2]
        unfold ci
        rw [List.getElem?_map, show j = a.length by omega, h10]
        rfl
      exact (List.getElem?_eq_some_iff.1 h11).2
    rw [hx]
    exact Cell_at h1 hN h7
end
section
variable {w : World} {g gl gc : Nat} {L : Ls} {side : Int} {q : Nat × Nat}
set_option maxRecDepth 100000 in
theorem Seek_gone (hc : Blk w gc 84 (curV gl side q)) (hb : Blk w gl 65 (lstV g L)) (hd : L.fd = true) (k : List UInt8) (s d : Int) :
    Calls Try.prog 15 #[.pointer (some ⟨gc, 0, none⟩), .agg #[.string (str k), .int .i64 s, .int .i64 d]] w fun e w' => e = .returned (.int .i64 3) ∧ Gr w w' := by
  have g1 := Gr.alloc w (.cells #[.string (str k), .int .i64 s, .int .i64 d] 34)
  have HC := Lib.hid (checkC_any _ g gl gc L side q (hc.gr g1) (hb.gr g1))
  rw [hd, if_pos rfl] at HC
  clear hc hb
  go_enter Try.func15, Try.ntmps15
  go_wp2_with (first
    | (go_at_call 32; go_must (refine HC.out.mono ?_); rintro e w2 ⟨rfl, rfl⟩)
    | fail)
  go_ret
  exact ⟨rfl, Gr.alloc _ _⟩
end
end Go.Proofs.Ytpaogoehgkoaeaa
/- Layer 3 (varint): what each function computes. -/
namespace Go.Proofs.Ytpaogoehgkoaeaa
set_option linter.unusedVariables false
set_option linter.unusedSimpArgs false
open Go.RowKit Varint
set_option maxRecDepth 100000 in
set_option maxHeartbeats 1000000 in
theorem Put_any (n : Nat) (w : World) (hn : n < 18446744073709551616) : Calls Try.prog 16 #[.int .u64 n] w (RetB 5 w (putF n)) := by
  go_enter Try.func16, Try.ntmps16
  go_wp2
  go_loopw [0, 3] (fun v b wr => ∃ k acc cur, ∃ ad cap, v = .int .u64 (cur : Nat) ∧ cur < 2 * 128 ^ k ∧ k ≤ 9 ∧ putF n = acc ++ putN k cur ∧ acc.length ≤ 9 - k ∧ b = .slice ad acc.length cap ∧ Owns wr w.heap.size 5 1 ad cap acc.length (bv acc) ∧ Gr w wr) (fun v _ _ => (intOf v).toNat)
  case atStart => exact ⟨9, [], n, none, 0, rfl, by simpa using hn, Nat.le_refl _, rfl, by simp, rfl, Owns.empty _ _ _ _, Gr.refl _⟩
  case round =>
    obtain ⟨k, acc, cur, ad, cap, rfl, hc, hk, hp, hal, rfl, ho, hg⟩ := hrel
    have HP := Lib.hid hp; clear hp
    have hpw : 128 ^ k ≤ 128 ^ 9 := Nat.pow_le_pow_right (by decide) hk
    have hb : cur < 18446744073709551616 := by omega
    have HC := Lib.hid hc; clear hc hpw
    have hs := hg.size
    have hm1 : acc.length + 1 ≤ maxLen := by unfold maxLen; omega
    have hm2 : (acc.length + 1) * 1 ≤ 140737488355328 := by omega
    by_cases hlt : cur < 128
    · have HX := Lib.hid (show (cur : Int) = ((UInt8.ofNat cur).toNat : Int) by rw [UInt8.toNat_ofNat']; omega)
      go_wp2_with (at_builtin; refine wp_append elemB rfl _ _ rfl rfl (ho.gr (Gr.alloc _ _)) rfl (Src.one _ _ (UInt8.ofNat cur) HX.out Try.underlying45) hm1 hm2 (by simp; omega) ?_; intro ad2 cap2 w2 o2 k2 f2)
      go_ret
      have e : putF n = acc ++ [UInt8.ofNat cur] := by rw [HP.out, putN_small hlt]
      refine ⟨ad2, cap2, by rw [e]; simp, ?_, hg.app ho (Nat.le_refl _) k2⟩
      rw [e, bv_append]
      simpa using o2
    · have HX := Lib.hid (b8_more cur)
      go_wp2_with (at_builtin; refine wp_append elemB rfl _ _ rfl rfl (ho.gr (Gr.alloc _ _)) rfl (Src.one _ _ (UInt8.ofNat (cur % 128 + 128)) HX.out Try.underlying45) hm1 hm2 (by simp; omega) ?_; intro ad2 cap2 w2 o2 k2 f2)
      obtain ⟨k', rfl⟩ : ∃ k', k = k' + 1 := ⟨k - 1, by
        have := HC.out
        cases k with
        | zero => simp at this; omega
        | succ k => rfl⟩
      have hc : cur < 2 * 128 ^ (k' + 1) := HC.out
      rw [Nat.pow_succ] at hc
      go_roundw
      case rel =>
        refine ⟨k', acc ++ [UInt8.ofNat (cur % 128 + 128)], cur / 128, ad2, cap2, by go_num, by omega, by omega, by rw [HP.out, putN_big hlt]; simp, by simp; omega, by simp, ?_, hg.app ho (Nat.le_refl _) k2⟩
        rw [bv_append]
        simpa using o2
      case measure => simp [intOf]; omega
end Go.Proofs.Ytpaogoehgkoaeaa
/- The statements through the layers: 300 has two bytes. -/
namespace Go.Proofs.Ytpaogoehgkoaeaa
set_option linter.unusedVariables false
set_option linter.unusedSimpArgs false
open Go.RowKit Varint
theorem put300 : putF 300 = [172, 2] := by decide +kernel
set_option maxRecDepth 100000 in
theorem awake_any (w : World) : Calls Try.prog 4 #[] w fun e w' => e = .returned (.bool true) ∧ Gr w w' := by
  have HP := Lib.hid (Put_any 300 w (by decide))
  rw [put300] at HP
  go_enter Try.func4, Try.ntmps4
  go_wp2_with (first
    | (go_at_call 16; go_must (refine HP.out.mono ?_); rintro e w2 ⟨ad2, cp2, rfl, o2, g2⟩
       have hs := run_string (P := Try.prog) Try.underlying45 Try.underlying5 Try.underlying9 (len := 2) (cap := cp2) (l := [172, 2]) rfl o2.bytes)
    | fail)
  go_ret
  exact ⟨rfl, g2⟩
end Go.Proofs.Ytpaogoehgkoaeaa
/- The statements through the layers: AssartStale answers true. -/
namespace Go.Proofs.Ytpaogoehgkoaeaa
set_option linter.unusedVariables false
set_option linter.unusedSimpArgs false
open Go.RowKit Ikey Varint
theorem take_asc {A : List Ci} (h : A.Pairwise AscI) {i : Nat} (hi : i < A.length) : ∀ x ∈ A.take i, AscI x A[i] := by
  have hs : A = A.take i ++ A[i] :: A.drop (i + 1) := by rw [← List.drop_eq_getElem_cons hi, List.take_append_drop]
  rw [hs, List.pairwise_append] at h
  exact fun x hx => h.2.2 x hx _ List.mem_cons_self
theorem take_next {A : List Ci} {i : Nat} (hi : i < A.length) : A.take i ++ [A[i]] = A.take (i + 1) := by
  rw [List.take_add_one, List.getElem?_eq_getElem hi]
  rfl
/-- what stays of the freed list and its cursor -/
def Gone (g gl gk : Nat) (w : World) : Prop := (∃ L, Blk w gl 65 (lstV g L) ∧ L.fd = true) ∧ ∃ side q, Blk w gk 84 (curV gl side q)
theorem Gone.more {g gl gk : Nat} {w w' : World} (h : Gone g gl gk w) (k : Gr w w') : Gone g gl gk w' := by
  obtain ⟨⟨L, h1, h2⟩, s, q, h3⟩ := h
  exact ⟨⟨L, h1.gr k, h2⟩, s, q, h3.gr k⟩
theorem Gone.same {g gl gk : Nat} {w w' : World} (h : Gone g gl gk w) (k1 : w'.heap[gl]? = w.heap[gl]?) (k2 : w'.heap[gk]? = w.heap[gk]?) : Gone g gl gk w' := by
  obtain ⟨⟨L, h1, h2⟩, s, q, h3⟩ := h
  exact ⟨⟨L, k1.trans h1, h2⟩, s, q, k2.trans h3⟩
theorem Gone.next {g gl gk : Nat} {w : World} (h : Gone g gl gk w) : Calls Try.prog 14 #[.pointer (some ⟨gk, 0, none⟩)] w fun e w' => e = .returned (.int .i64 3) ∧ w = w' := by
  obtain ⟨⟨L, h1, h2⟩, s, q, h3⟩ := h
  exact Next_gone h3 h1 h2
theorem Gone.cell {g gl gk : Nat} {w : World} (h : Gone g gl gk w) : Calls Try.prog 13 #[.pointer (some ⟨gk, 0, none⟩)] w fun e w' => e = .returned (zcE 3) ∧ Gr w w' := by
  obtain ⟨⟨L, h1, h2⟩, s, q, h3⟩ := h
  exact Cell_gone h3 h1 h2
theorem Gone.seek {g gl gk : Nat} {w : World} (h : Gone g gl gk w) (k : List UInt8) (s d : Int) : Calls Try.prog 15 #[.pointer (some ⟨gk, 0, none⟩), .agg #[.string (str k), .int .i64 s, .int .i64 d]] w fun e w' => e = .returned (.int .i64 3) ∧ Gr w w' := by
  obtain ⟨⟨L, h1, h2⟩, s', q, h3⟩ := h
  exact Seek_gone h3 h1 h2 k s d
set_option maxRecDepth 100000 in
set_option maxHeartbeats 4000000 in
theorem AssartStale_any (ad : Option Addr) (cap : Nat) (l : List Ci) (ad1 : Option Addr) (cap1 : Nat) (l1 : List Ci) (w : World) (hr : Row w ad (cv l)) (hl : l.length ≤ 9223372036854775807) (hvl : ∀ c ∈ l, c.val.length ≤ 9223372036854775807) (hr1 : Row w ad1 (cv l1)) (hl1 : l1.length ≤ 9223372036854775807) (hvl1 : ∀ c ∈ l1, c.val.length ≤ 9223372036854775807) :
    Calls Try.prog 3 #[.slice ad l.length cap, .slice ad1 l1.length cap1] w fun e w' => e = .returned (.bool true) ∧ Gr w w' := by
  have HCa := Lib.hid (fun w' (k : Gr w w') => cells_any ad cap l w' (hr.gr k) hl hvl)
  have HCb := Lib.hid (fun w' (k : Gr w w') => cells_any ad1 cap1 l1 w' (hr1.gr k) hl1 hvl1)
  have hsA := gather_sorted okT l (min l.length 50)
  have hsB := gather_sorted okT l1 (min l1.length 50)
  have hlA := gather_len okT l (min l.length 50)
  have hlB := gather_len okT l1 (min l1.length 50)
  have hmA := gather_mem okT l (min l.length 50) (by omega)
  have hmB := gather_mem okT l1 (min l1.length 50) (by omega)
  have hlA : (gatherN okT l (min l.length 50)).length ≤ 50 := by omega
  have hlB : (gatherN okT l1 (min l1.length 50)).length ≤ 50 := by omega
  generalize gatherN okT l (min l.length 50) = A at *
  generalize gatherN okT l1 (min l1.length 50) = B at *
  have HSA := Lib.hid hsA
  have HSB := Lib.hid hsB
  have HMA := Lib.hid (fun c hc => (hmA c hc).2)
  have HMB := Lib.hid (fun c hc => (hmB c hc).2)
  clear hr hr1 hvl hvl1 hsA hsB hmA hmB
  have T0 : RowKit.Hid True := trivial
  go_enter Try.func3, Try.ntmps3
  go_wp2_with (first
    | (go_at_call 4; go_must (refine (awake_any _).mono ?_); rintro e w1 ⟨rfl, g1⟩)
    | (go_at_call 5; clear T0; go_must (refine (HCa.out _ g1).mono ?_); rintro e w2 ⟨adA, cpA, rfl, oA, g2⟩; clear HCa)
    | (go_at_call 5; go_must (refine (HCb.out _ (g1.trans g2)).mono ?_); rintro e V0 ⟨adB, cpB, rfl, oB, g3⟩; clear HCb)
    | (go_at_call 6; go_must (refine (show Calls Try.prog 6 #[.int .i64 4096, .int .i64 60] V0 _ from New_pl (Gr.refl V0) 4096 60 (by decide) (by decide) (by decide) (by decide) (by decide) (by decide)).mono ?_); rintro e w4 ⟨g, S0, rfl, g4, _, P4, _⟩)
    | (go_at_call 7; go_must (refine (one_new g4 P4).mono ?_); rintro e w5 ⟨gl, rfl, h5⟩; have HO := Lib.hid h5)
    | fail)
  have HRA := Lib.hid (oA.gr g3).row.ci
  have HRB := Lib.hid oB.row.ci
  have GV := Lib.hid ((g1.trans g2).trans g3)
  clear h5 P4 g4 oA oB g1 g2 g3
  go_loopw [10] (fun vi wr => ∃ i : Nat, vi = .int .i64 (i : Int) ∧ i ≤ A.length ∧ One V0 (fun _ => False) g gl (60 - i) 1 (A.take i) wr) (fun vi _ => A.length - (intOf vi).toNat)
  case atStart => exact ⟨0, rfl, Nat.zero_le _, HO.out⟩
  case round =>
    clear HO
    obtain ⟨i, rfl, hi, hO⟩ := hrel
    by_cases hlt : i < A.length
    · obtain ⟨b, off, hade, e0, e1, e2, e3⟩ := HRA.out i hlt
      subst hade
      have e0 := hO.gr.cell e0
      have e1 := hO.gr.cell e1
      have e2 := hO.gr.cell e2
      have e3 := hO.gr.cell e3
      obtain ⟨t, ht⟩ : ∃ t : Int, t = ((1 + i % 4 : Nat) : Int) := ⟨_, rfl⟩
      have h7 : (i : Int).tmod 4 = t - 1 := by rw [ht]; rw [Int.tmod_eq_emod_of_nonneg (by omega)]; omega
      have h8 : IntKind.i64.wrap (1 + (t - 1)) = t := by rw [show 1 + (t - 1) = t by omega]; exact IntWalk.i64_in _ (by rw [ht]; constructor <;> omega)
      have hO' : One V0 (fun _ => False) g gl ((60 - (i + 1)) + 1) 1 (A.take i) wr := by rw [show (60 - (i + 1)) + 1 = 60 - i by omega]; exact hO
      have HI := Lib.hid (hO'.ins (take_asc HSA.out hlt) (HMA.out _ (List.getElem_mem hlt)) (t := t) (by omega) (by omega) (by rw [List.length_take]; omega))
      rw [take_next hlt] at HI
      generalize A[i] = c at *
      clear ht hO hO'
      go_wp2_with (first
        | (go_at_call 8; go_must (refine HI.out.mono ?_); rintro e w6 ⟨rfl, hO, _⟩)
        | fail)
      go_roundw
      case rel => exact ⟨i + 1, by go_num, hlt, hO⟩
      case measure => simp [intOf]; omega
    · obtain rfl : i = A.length := by omega
      rw [List.take_length] at hO
      have HO := Lib.hid hO
      clear hO HRA hlt hi
      go_wp2_with (first
        | (go_at_call 9; go_must (refine (Cursor_any gl _).mono ?_); rintro e w6 ⟨rfl, b6, g6⟩; have h6 := HO.out.lay g6 b6.lt)
        | (go_at_call 10; go_must (refine (h6.first b6 (.inr rfl)).mono ?_); rintro e w7 ⟨⟨n7, rfl⟩, h7, s7, q7, b7⟩; clear h6)
        | (go_at_call 11; go_must (refine h7.free.mono ?_); rintro e w8 ⟨rfl, h8, k8⟩; have b8 := (k8 _ (.inr rfl)).trans b7; clear h7)
        | (go_at_call 12; go_must (refine h8.idle.mono ?_); rintro e w' ⟨rfl, rfl⟩)
        | (go_at_call 7; go_must (refine (h8.new (by decide)).mono ?_); rintro e w9 ⟨gl2, rfl, h9, hL, k9⟩; have HG := Lib.hid (show Gone g gl wr.heap.size w9 from ⟨hL, s7, q7, (k9 _ (.inr rfl)).trans b8⟩); have HO9 := Lib.hid h9; clear h8)
        | fail)
      generalize wr.heap.size = gk at *
      clear b6 g6 b7 b8 k8 h9 hL k9
      go_loopw [13] (fun vi wr => ∃ i : Nat, vi = .int .i64 (i : Int) ∧ i ≤ B.length ∧ One V0 (fun j => (False ∨ j = gk) ∨ j = gl) g gl2 (60 - i) 2 (B.take i) wr ∧ Gone g gl gk wr) (fun vi _ => B.length - (intOf vi).toNat)
      case atStart => exact ⟨0, rfl, Nat.zero_le _, HO9.out, HG.out⟩
      case round =>
        clear HO9 HG
        obtain ⟨i, rfl, hi, hO, hG⟩ := hrel
        by_cases hlt : i < B.length
        · obtain ⟨b, off, hade, e0, e1, e2, e3⟩ := HRB.out i hlt
          subst hade
          have e0 := hO.gr.cell e0
          have e1 := hO.gr.cell e1
          have e2 := hO.gr.cell e2
          have e3 := hO.gr.cell e3
          obtain ⟨t, ht⟩ : ∃ t : Int, t = ((1 + i % 3 : Nat) : Int) := ⟨_, rfl⟩
          have h7 : (i : Int).tmod 3 = t - 1 := by rw [ht]; rw [Int.tmod_eq_emod_of_nonneg (by omega)]; omega
          have h8 : IntKind.i64.wrap (1 + (t - 1)) = t := by rw [show 1 + (t - 1) = t by omega]; exact IntWalk.i64_in _ (by rw [ht]; constructor <;> omega)
          have hO' : One V0 (fun j => (False ∨ j = gk) ∨ j = gl) g gl2 ((60 - (i + 1)) + 1) 2 (B.take i) wr := by rw [show (60 - (i + 1)) + 1 = 60 - i by omega]; exact hO
          have HI := Lib.hid (hO'.ins (take_asc HSB.out hlt) (HMB.out _ (List.getElem_mem hlt)) (t := t) (by omega) (by omega) (by rw [List.length_take]; omega))
          rw [take_next hlt] at HI
          have HG := Lib.hid hG
          have HCl := Lib.hid (fun w' (h : Gone g gl gk w') => h.cell)
          unfold zcE zeC at HCl
          generalize B[i] = c at *
          clear ht hO hO' hG
          go_wp2_with (first
            | (go_at_call 8; go_must (refine HI.out.mono ?_); rintro e w6 ⟨rfl, hO, hX⟩; have hG := HG.out.same (hX _ (.inr rfl)) (hX _ (.inl (.inr rfl))))
            | (go_at_call 13; go_must (refine (HCl.out _ hG).mono ?_); rintro e w7 ⟨rfl, g7⟩; have g8 := g7.trans (Gr.alloc w7 (.cells #[.string ⟨#[]⟩, .int .i64 0, .int .i64 0, .string ⟨#[]⟩] 36)))
            | fail)
          go_roundw
          case rel => exact ⟨i + 1, by go_num, hlt, hO.more g8, hG.more g8⟩
          case measure => simp [intOf]; omega
        · obtain rfl : i = B.length := by omega
          rw [List.take_length] at hO
          have HO := Lib.hid hO
          have HG := Lib.hid hG
          clear hO hG hlt hi
          go_wp2_with (first
            | (go_at_call 9; go_must (refine (Cursor_any gl2 _).mono ?_); rintro e w6 ⟨rfl, b6, g6⟩; have HW := Lib.hid (Way.start (HO.out.lay g6 b6.lt) b6 (.inr rfl)); have HG6 := Lib.hid (HG.out.more g6); have hne : wr.heap.size ≠ gl ∧ wr.heap.size ≠ gk := by
                obtain ⟨S, p, L, N, _, _, _, _, _, _, h7⟩ := HO.out
                have a1 := (h7 gl (.inr rfl)).1
                have a2 := (h7 gk (.inl (.inr rfl))).1
                constructor <;> omega)
            | fail)
          generalize wr.heap.size = gm at *
          have HNE := Lib.hid hne
          clear b6 g6 HO HG hne
          go_loopw [17] (fun vj wr => ∃ j : Nat, vj = .int .i64 (j : Int) ∧ j ≤ B.length ∧ Way V0 (fun j => ((False ∨ j = gk) ∨ j = gl) ∨ j = gm) g gl2 gm 2 B j wr ∧ Gone g gl gk wr) (fun vi _ => B.length - (intOf vi).toNat)
          case atStart => exact ⟨0, rfl, Nat.zero_le _, HW.out, HG6.out⟩
          case round =>
            clear HW HG6
            obtain ⟨j, rfl, hj, hW, hG⟩ := hrel
            by_cases hjl : j < B.length
            · obtain ⟨b, off, hade, e0, e1, e2, e3⟩ := HRB.out j hjl
              subst hade
              have HE := Lib.hid (And.intro e0 (And.intro e1 (And.intro e2 e3)))
              have HN := Lib.hid (hW.next hjl)
              have HC := Lib.hid (fun w' (h : Way V0 (fun j => ((False ∨ j = gk) ∨ j = gl) ∨ j = gm) g gl2 gm 2 B (j + 1) w') => h.cell hjl)
              have HG := Lib.hid hG
              generalize B[j] = c at *
              clear hW hG e0 e1 e2 e3
              go_wp2_with (first
                | (go_at_call 14; go_must (refine HN.out.mono ?_); rintro e w6 ⟨rfl, hW, hX⟩; have hG := HG.out.same (hX.block _ (by obtain ⟨L, h1, _⟩ := HG.out.1; exact h1.lt) (fun e => HNE.out.1 e.symm)) (hX.block _ (by obtain ⟨s, q, h1⟩ := HG.out.2; exact h1.lt) (fun e => HNE.out.2 e.symm)))
                | (go_at_call 13; go_must (refine (HC.out _ hW).mono ?_); rintro e w7 ⟨rfl, g7⟩
                   have g8 := g7.trans (Gr.alloc w7 (.cells #[.string (str c.key), .int .i64 c.seq, .int .i64 c.kind, .string (str c.val)] 36))
                   have hW8 := hW.more g8
                   have hG8 := hG.more g8
                   obtain ⟨e0, e1, e2, e3⟩ := HE.out
                   have f0 := hW8.one.gr.cell e0
                   have f1 := hW8.one.gr.cell e1
                   have f2 := hW8.one.gr.cell e2
                   have f3 := hW8.one.gr.cell e3
                   have HW8 := Lib.hid hW8
                   have HG8 := Lib.hid hG8
                   clear e0 e1 e2 e3 hW hG hW8 hG8 g8)
                | fail)
              go_quiet (fail)
              clear f0 f1 f2 f3
              go_wp2
              go_roundw
              case rel => exact ⟨j + 1, by go_num, hjl, HW8.out.more (Gr.drewN _ _), HG8.out.more (Gr.drewN _ _)⟩
              case measure => simp [intOf]; omega
            · obtain rfl : j = B.length := by omega
              have HW := Lib.hid hW
              have HN := Lib.hid hG.next
              have HS := Lib.hid (hG.seek [97] 0 0)
              have HF := Lib.hid (fun w' (k : Gr wr w') => (hW.one.more k).free)
              clear hW hG hjl hj
              go_wp2_with (first
                | (go_at_call 14; go_must (refine HN.out.mono ?_); rintro e w' ⟨rfl, rfl⟩)
                | (go_at_call 15; go_must (refine HS.out.mono ?_); rintro e w6 ⟨rfl, g6⟩)
                | (go_at_call 11; go_must (refine (HF.out _ g6).mono ?_); rintro e w7 ⟨rfl, h7, _⟩)
                | (go_at_call 12; go_must (refine h7.idle.mono ?_); rintro e w' ⟨rfl, rfl⟩)
                | fail)
              go_ret
              exact ⟨rfl, GV.out.trans h7.gr⟩
end Go.Proofs.Ytpaogoehgkoaeaa
/- How the arguments of a statement's function are opened. No program is in sight here. -/
namespace Go.Proofs.Ytpaogoehgkoaeaa
set_option linter.unusedVariables false
set_option linter.unusedSimpArgs false
open Go.ChangeShapes Go.WideShapes Go.ChangeAt Go.RowKit
section
variable {H : Type} {P : Program} {w : World} {enc : TypeId × Value → H}

theorem wf_bounds {k : IntKind} {n : Int} (h : (Lit.int k n).wf = true) : k.min ≤ n ∧ n ≤ k.max := by
  simpa [Lit.wf] using h
theorem bounds_i64 {n : Int} (h : (Lit.int .i64 n).wf = true) : -9223372036854775808 ≤ n ∧ n ≤ 9223372036854775807 := wf_bounds h
theorem pick_u32 {n : Int} (h : (Lit.int .u32 n).wf = true) : ∃ x : BitVec 32, n = U x := by
  have hb := wf_bounds h
  have h1 : (0 : Int) ≤ n := hb.1
  have h2 : n ≤ 4294967295 := hb.2
  obtain ⟨m, rfl⟩ := Int.eq_ofNat_of_zero_le h1
  exact ⟨BitVec.ofNat 32 m, U_lit m rfl (by omega)⟩
theorem pick_u64 {n : Int} (h : (Lit.int .u64 n).wf = true) : ∃ m : Nat, n = (m : Int) ∧ m < 18446744073709551616 := by
  have hb := wf_bounds h
  have h1 : (0 : Int) ≤ n := hb.1
  have h2 : n ≤ 18446744073709551615 := hb.2
  obtain ⟨m, rfl⟩ := Int.eq_ofNat_of_zero_le h1
  exact ⟨m, rfl, by omega⟩
theorem pick_u8 {n : Int} (h : (Lit.int .u8 n).wf = true) : ∃ x : UInt8, n = (x.toNat : Int) := by
  have hb := wf_bounds h
  have h1 : (0 : Int) ≤ n := hb.1
  have h2 : n ≤ 255 := hb.2
  obtain ⟨m, rfl⟩ := Int.eq_ofNat_of_zero_le h1
  exact ⟨UInt8.ofNat m, by rw [UInt8.toNat_ofNat', Nat.mod_eq_of_lt (by omega)]⟩

/-- a slice of numbers that came in -/
theorem open_nums {base : Nat} {spare : Nat → Bool} {held : Bool} {r : Reach} {b0 : Nat} {t e : TypeId} {k : IntKind} {v : Value} {d : DataW H} {ps : List MemPlace} (ht : P.underlying t = some (.slice e)) (he : P.underlying e = some (.int k)) (hc : P.cellsOf e = 1)
    (hval : Value.okWide P w r b0 t v) (hd : DataW.Trod enc P w base spare held t v d ps) :
    ∃ ad len cap, ∃ zs : List Int, v = .slice ad len cap ∧ zs.length = len ∧ len ≤ cap ∧ cap ≤ maxLen ∧ Row w ad (zs.map (Value.int k)) ∧ (∀ n ∈ zs, (Lit.int k n).wf = true) ∧
      ((d = .nil ∧ len = 0) ∨ ∃ x y, d = .slice x y ∧ len ≤ x.length) := by
  obtain ⟨ad, len, cap, rfl⟩ := okWide_slice ht hval
  obtain ⟨fuel, hf⟩ := hd
  rcases open_ints ht he hc hf with ⟨hcs, hx⟩ | ⟨x, l, c, zs, hcs, _, hl, hm, hz, hx, hcell, hwz⟩
  · simp [Value.cells] at hcs
    obtain ⟨e1, e2, e3⟩ := hcs
    subst e1 e2 e3
    simp only [Prod.mk.injEq] at hx
    exact ⟨none, 0, 0, [], rfl, rfl, Nat.le_refl _, Nat.zero_le _, Row.nil _ _, by simp, .inl ⟨hx.1, rfl⟩⟩
  · simp [Value.cells] at hcs
    obtain ⟨e1, e2, e3⟩ := hcs
    subst e1 e2 e3
    have hzl : len ≤ zs.length := by rw [hz]; split <;> omega
    have htl : (zs.take len).length = len := by simp; omega
    simp only [Prod.mk.injEq] at hx
    refine ⟨some x, len, cap, zs.take len, rfl, htl, hl, hm, ?_, fun n hn => hwz n (List.mem_of_mem_take hn), .inr ⟨_, _, hx.1, by simp [lits]; omega⟩⟩
    intro i u hi
    have hil : i < len := by
      have := (List.getElem?_eq_some_iff.1 hi).1
      rw [List.length_map, htl] at this; exact this
    obtain ⟨b, off, rfl, hcc⟩ := ints_at hcell (by omega)
    refine ⟨b, off, rfl, ?_⟩
    rw [hcc i (by omega)]
    rw [List.getElem?_map, List.getElem?_take, if_pos hil] at hi
    rw [List.getD_eq_getElem?_getD]
    have : i < zs.length := by omega
    simp [this] at hi ⊢
    exact hi
/-- a slice of bytes that came in -/
theorem open_bytes {base : Nat} {spare : Nat → Bool} {held : Bool} {r : Reach} {b0 : Nat} {t e : TypeId} {v : Value} {d : DataW H} {ps : List MemPlace} (ht : P.underlying t = some (.slice e)) (he : P.underlying e = some (.int .u8)) (hc : P.cellsOf e = 1)
    (hval : Value.okWide P w r b0 t v) (hd : DataW.Trod enc P w base spare held t v d ps) :
    ∃ ad len cap, ∃ l : List UInt8, v = .slice ad len cap ∧ l.length = len ∧ len ≤ cap ∧ cap ≤ maxLen ∧ Bytes w ad l ∧ ((d = .nil ∧ len = 0) ∨ ∃ x y, d = .slice x y ∧ len ≤ x.length) := by
  obtain ⟨ad, len, cap, zs, hv, h1, h2, h3, h4, h5, h6⟩ := open_nums ht he hc hval hd
  refine ⟨ad, len, cap, zs.map (fun n => UInt8.ofNat n.toNat), hv, by simpa using h1, h2, h3, ?_, h6⟩
  have : bv (zs.map (fun n => UInt8.ofNat n.toNat)) = zs.map (Value.int .u8) := by
    unfold bv
    rw [List.map_map]
    apply List.map_congr_left
    intro n hn
    obtain ⟨x, rfl⟩ := pick_u8 (h5 n hn)
    simp
  exact Row.bytes (by rw [this]; exact h4)
theorem sized_len {ts : List TypeId} {ds : List (DataW H)} (h : (DataW.weightsEach P ts ds).all (· ≤ reachBytes) = true) {j : Nat} {t e : TypeId} {d : DataW H} {len bytes : Nat} (ht : ts[j]? = some t) (hd : ds[j]? = some d) (hu : P.underlying t = some (.slice e)) (hb : P.bytesOf e = bytes)
    (hc : (d = .nil ∧ len = 0) ∨ ∃ x y, d = .slice x y ∧ len ≤ x.length) : len * bytes ≤ 140737488351232 := by
  rcases hc with ⟨_, rfl⟩ | ⟨x, y, rfl, hl⟩
  · simp
  · have h1 := sized_slice h ht hd hu
    rw [hb] at h1
    exact Nat.le_trans (Nat.mul_le_mul_right _ (by omega)) h1
theorem str_eta (t : ByteArray) : str t.data.toList = t := by
  apply ByteArray.ext
  simp [str]
theorem to_str (t : ByteArray) : ∃ l, t = str l := ⟨t.data.toList, (str_eta t).symm⟩

end
end Go.Proofs.Ytpaogoehgkoaeaa
/- How slices of texts and of 64-bit numbers are opened. No program is in sight here. -/
namespace Go.Proofs.Ytpaogoehgkoaeaa
set_option linter.unusedVariables false
set_option linter.unusedSimpArgs false
open Go.ChangeShapes Go.WideShapes Go.ChangeAt Go.RowKit
section
variable {H : Type} {P : Program} {w : World} {enc : TypeId × Value → H}
/-- texts, as Go's values -/
def tv (l : List (List UInt8)) : List Value := l.map fun s => Value.string (str s)
theorem open_strs {base : Nat} {spare : Nat → Bool} {held : Bool} {r : Reach} {b0 : Nat} {t e : TypeId} {v : Value} {d : DataW H} {ps : List MemPlace} (ht : P.underlying t = some (.slice e)) (he : P.underlying e = some .string) (hc : P.cellsOf e = 1)
    (hval : Value.okWide P w r b0 t v) (hd : DataW.Trod enc P w base spare held t v d ps) :
    ∃ ad len cap, ∃ l : List (List UInt8), v = .slice ad len cap ∧ l.length = len ∧ len ≤ cap ∧ cap ≤ maxLen ∧ Row w ad (tv l) ∧ (∀ s ∈ l, s.length ≤ 9223372036854775807) ∧
      ((d = .nil ∧ len = 0) ∨ ∃ x y, d = .slice x y ∧ len ≤ x.length) := by
  obtain ⟨ad, len, cap, rfl⟩ := okWide_slice ht hval
  obtain ⟨fuel, hf⟩ := hd
  rcases open_strings ht he hc hf with ⟨hcs, hx⟩ | ⟨a, l, c, ss, hcs, _, hl, hm, hz, hx, hcell, hwz⟩
  · simp [Value.cells] at hcs
    obtain ⟨e1, e2, e3⟩ := hcs
    subst e1 e2 e3
    simp only [Prod.mk.injEq] at hx
    exact ⟨none, 0, 0, [], rfl, rfl, Nat.le_refl _, Nat.zero_le _, Row.nil _ _, by simp, .inl ⟨hx.1, rfl⟩⟩
  · simp [Value.cells] at hcs
    obtain ⟨e1, e2, e3⟩ := hcs
    subst e1 e2 e3
    have hzl : len ≤ ss.length := by rw [hz]; split <;> omega
    simp only [Prod.mk.injEq] at hx
    have hlen : ((ss.take len).map fun s => s.data.toList).length = len := by simp; omega
    refine ⟨some a, len, cap, (ss.take len).map fun s => s.data.toList, rfl, hlen, hl, hm, ?_, ?_, .inr ⟨_, _, hx.1, by simp [strs]; omega⟩⟩
    · intro i u hi
      have hil : i < len := by
        have := (List.getElem?_eq_some_iff.1 hi).1
        unfold tv at this
        rw [List.length_map, hlen] at this; exact this
      have h0 := hcell 0 (by omega)
      obtain ⟨b, off, spot⟩ := a
      have hspot : spot = none := by simpa [Addr.add] using World.cell?_spot h0
      subst hspot
      refine ⟨b, off, rfl, ?_⟩
      have hi2 := hcell i (by omega)
      rw [Go.WideShapes.add_plain] at hi2
      rw [hi2]
      have hss : i < ss.length := by omega
      unfold tv at hi
      simp only [List.getElem?_map, List.getElem?_take, hil, if_true, List.getElem?_eq_getElem hss, Option.map_some, Option.some.injEq] at hi
      rw [← hi, str_eta, List.getD_eq_getElem?_getD, List.getElem?_eq_getElem hss, Option.getD_some]
    · intro s hs
      obtain ⟨x, hx1, rfl⟩ := List.mem_map.1 hs
      have := hwz x (List.mem_of_mem_take hx1)
      unfold maxLen at this
      simpa using this
theorem open_u64s {base : Nat} {spare : Nat → Bool} {held : Bool} {r : Reach} {b0 : Nat} {t e : TypeId} {v : Value} {d : DataW H} {ps : List MemPlace} (ht : P.underlying t = some (.slice e)) (he : P.underlying e = some (.int .u64)) (hc : P.cellsOf e = 1)
    (hval : Value.okWide P w r b0 t v) (hd : DataW.Trod enc P w base spare held t v d ps) :
    ∃ ad len cap, ∃ l : List Nat, v = .slice ad len cap ∧ l.length = len ∧ len ≤ cap ∧ cap ≤ maxLen ∧ Row w ad (l.map fun (n : Nat) => Value.int .u64 (n : Int)) ∧ (∀ n ∈ l, n < 18446744073709551616) ∧
      ((d = .nil ∧ len = 0) ∨ ∃ x y, d = .slice x y ∧ len ≤ x.length) := by
  obtain ⟨ad, len, cap, zs, hv, h1, h2, h3, h4, h5, h6⟩ := open_nums ht he hc hval hd
  refine ⟨ad, len, cap, zs.map Int.toNat, hv, by simpa using h1, h2, h3, ?_, ?_, h6⟩
  · have : (zs.map Int.toNat).map (fun (n : Nat) => Value.int .u64 (n : Int)) = zs.map (Value.int .u64) := by
      rw [List.map_map]
      apply List.map_congr_left
      intro n hn
      obtain ⟨m, rfl, _⟩ := pick_u64 (h5 n hn)
      simp
    rw [this]; exact h4
  · intro n hn
    obtain ⟨z, hz, rfl⟩ := List.mem_map.1 hn
    obtain ⟨m, rfl, hm⟩ := pick_u64 (h5 z hz)
    simpa using hm
end
end Go.Proofs.Ytpaogoehgkoaeaa
/- How a struct of a text and two numbers is opened. No program is in sight here. -/
namespace Go.Proofs.Ytpaogoehgkoaeaa
set_option linter.unusedVariables false
set_option linter.unusedSimpArgs false
open Go.ChangeShapes Go.WideShapes Go.ChangeAt Go.RowKit Go.Joins Go.Deep
section
variable {H : Type} {P : Program} {w : World} {enc : TypeId × Value → H}
theorem open_sii {base : Nat} {spare : Nat → Bool} {held : Bool} {r : Reach} {b0 : Nat} {t : TypeId} {f0 f1 f2 : Field} {v : Value} {d : DataW H} {ps : List MemPlace} (hs : P.underlying t = some (.struct #[f0, f1, f2])) (hone : oneCellFields P #[f0, f1, f2] = true) (hC : P.cellsOf t = 3)
    (h0 : P.underlying f0.type = some .string) (h1 : P.underlying f1.type = some (.int .i64)) (h2 : P.underlying f2.type = some (.int .i64))
    (hval : Value.okWide P w r b0 t v) (hd : DataW.Trod enc P w base spare held t v d ps) :
    ∃ (k : List UInt8) (s e : Int), v = .agg #[.string (str k), .int .i64 s, .int .i64 e] ∧ k.length ≤ maxLen ∧ (-9223372036854775808 ≤ s ∧ s ≤ 9223372036854775807) ∧ (-9223372036854775808 ≤ e ∧ e ≤ 9223372036854775807) := by
  obtain ⟨c0, c1, c2, y0, y1, y2, m, rfl, _, _, hy0, hy1, hy2⟩ := open_agg3 hs hone hC hval hd
  obtain ⟨t, e0, _, hl⟩ := DataW.trod_string h0 hy0
  obtain ⟨a, e1, _, w1⟩ := DataW.trod_int h1 hy1
  obtain ⟨b, e2, _, w2⟩ := DataW.trod_int h2 hy2
  simp only [List.cons.injEq, and_true] at e0 e1 e2
  subst e0 e1 e2
  obtain ⟨k, rfl⟩ := to_str t
  exact ⟨k, a, b, rfl, by rw [str_size] at hl; exact hl, bounds_i64 w1, bounds_i64 w2⟩
theorem open_ssii {base : Nat} {spare : Nat → Bool} {held : Bool} {r : Reach} {b0 : Nat} {t : TypeId} {f0 f1 f2 f3 : Field} {v : Value} {d : DataW H} {ps : List MemPlace} (hs : P.underlying t = some (.struct #[f0, f1, f2, f3])) (hone : oneCellFields P #[f0, f1, f2, f3] = true) (hC : P.cellsOf t = 4)
    (h0 : P.underlying f0.type = some .string) (h1 : P.underlying f1.type = some .string) (h2 : P.underlying f2.type = some (.int .i64)) (h3 : P.underlying f3.type = some (.int .i64))
    (hval : Value.okWide P w r b0 t v) (hd : DataW.Trod enc P w base spare held t v d ps) :
    ∃ (k m : List UInt8) (s e : Int), v = .agg #[.string (str k), .string (str m), .int .i64 s, .int .i64 e] ∧ k.length ≤ maxLen ∧ m.length ≤ maxLen ∧ (-9223372036854775808 ≤ s ∧ s ≤ 9223372036854775807) ∧ (-9223372036854775808 ≤ e ∧ e ≤ 9223372036854775807) := by
  obtain ⟨c0, c1, c2, c3, y0, y1, y2, y3, m, rfl, _, _, hy0, hy1, hy2, hy3⟩ := open_agg4 hs hone hC hval hd
  obtain ⟨t0, e0, _, hl0⟩ := DataW.trod_string h0 hy0
  obtain ⟨t1, e1, _, hl1⟩ := DataW.trod_string h1 hy1
  obtain ⟨a, e2, _, w2⟩ := DataW.trod_int h2 hy2
  obtain ⟨b, e3, _, w3⟩ := DataW.trod_int h3 hy3
  simp only [List.cons.injEq, and_true] at e0 e1 e2 e3
  subst e0 e1 e2 e3
  obtain ⟨k, rfl⟩ := to_str t0
  obtain ⟨k1, rfl⟩ := to_str t1
  exact ⟨k, k1, a, b, rfl, by rw [str_size] at hl0; exact hl0, by rw [str_size] at hl1; exact hl1, bounds_i64 w2, bounds_i64 w3⟩
end
end Go.Proofs.Ytpaogoehgkoaeaa
/- How a slice of cells (a version and a text each) is opened. No program is in sight here. -/
namespace Go.Proofs.Ytpaogoehgkoaeaa
set_option linter.unusedVariables false
set_option linter.unusedSimpArgs false
open Go.ChangeShapes Go.WideShapes Go.ChangeAt Go.RowKit Go.Deep
theorem len_of_ {n cap : Nat} (hc : n ≤ cap) (hm : cap ≤ maxLen) : n ≤ 9223372036854775807 := by
  have : maxLen ≤ 9223372036854775807 := by decide
  omega
theorem le_of_max {n : Nat} (h : n ≤ maxLen) : n ≤ 9223372036854775807 := Nat.le_trans h (by decide)
instance : Inhabited Ci := ⟨⟨[], 0, 0, []⟩⟩
section
variable {H : Type} {P : Program} {w : World} {enc : TypeId × Value → H}
/-- what a struct of a version and a text tells -/
theorem trod_cell {base : Nat} {spare : Nat → Bool} {held : Bool} {e ver : TypeId} {f0 f1 g0 g1 g2 : Field} {fuel : Nat} {v0 v1 v2 v3 : Value} {d : DataW H} {ps : List MemPlace} (he : P.underlying e = some (.struct #[f0, f1])) (hv : P.underlying f0.type = some (.struct #[g0, g1, g2]))
    (ho : f0.offset = 0 ∧ f1.offset = 3 ∧ g0.offset = 0 ∧ g1.offset = 1 ∧ g2.offset = 2) (hc : P.cellsOf f0.type = 3 ∧ P.cellsOf f1.type = 1 ∧ P.cellsOf g0.type = 1 ∧ P.cellsOf g1.type = 1 ∧ P.cellsOf g2.type = 1)
    (s1 : P.underlying f1.type = some .string) (t0 : P.underlying g0.type = some .string) (t1 : P.underlying g1.type = some (.int .i64)) (t2 : P.underlying g2.type = some (.int .i64))
    (h : DataW.trod enc P w base spare held fuel e [v0, v1, v2, v3] = some (d, ps)) : ∃ q : Ci, [v0, v1, v2, v3] = c4 q ∧ q.key.length ≤ maxLen ∧ q.val.length ≤ maxLen ∧ (-9223372036854775808 ≤ q.seq ∧ q.seq ≤ 9223372036854775807) ∧ (-9223372036854775808 ≤ q.kind ∧ q.kind ≤ 9223372036854775807) := by
  obtain ⟨o0, o1, p0, p1, p2⟩ := ho
  obtain ⟨c0, c1, k0, k1, k2⟩ := hc
  obtain ⟨xs, k, hk, hxy, _, hxl, hf⟩ := DataW.trod_struct he h
  match xs, hxl with
  | [y0, y1], _ =>
    have g0' := hf 0 f0 rfl
    have g1' := hf 1 f1 rfl
    simp [o0, c0] at g0'
    simp [o1, c1] at g1'
    obtain ⟨zs, k', hk', hxy', _, hzl, hf'⟩ := DataW.trod_struct hv g0'
    match zs, hzl with
    | [z0, z1, z2], _ =>
      have a0 := hf' 0 g0 rfl
      have a1 := hf' 1 g1 rfl
      have a2 := hf' 2 g2 rfl
      simp [p0, k0] at a0
      simp [p1, k1] at a1
      simp [p2, k2] at a2
      obtain ⟨n0, q0, _, l0⟩ := DataW.trod_string t0 a0
      obtain ⟨n1, q1, _, w1⟩ := DataW.trod_int t1 a1
      obtain ⟨n2, q2, _, w2⟩ := DataW.trod_int t2 a2
      obtain ⟨n3, q3, _, l3⟩ := DataW.trod_string s1 g1'
      simp only [List.cons.injEq, and_true] at q0 q1 q2 q3
      obtain ⟨t0, rfl⟩ := to_str n0
      obtain ⟨t3, rfl⟩ := to_str n3
      subst q0 q1 q2 q3
      exact ⟨⟨t0, n1, n2, t3⟩, rfl, by rw [str_size] at l0; exact l0, by rw [str_size] at l3; exact l3, bounds_i64 w1, bounds_i64 w2⟩
theorem open_cells {base : Nat} {spare : Nat → Bool} {held : Bool} {r : Reach} {b0 : Nat} {t e : TypeId} {f0 f1 g0 g1 g2 : Field} {v : Value} {d : DataW H} {ps : List MemPlace} (ht : P.underlying t = some (.slice e)) (ce : P.cellsOf e = 4) (he : P.underlying e = some (.struct #[f0, f1])) (hv : P.underlying f0.type = some (.struct #[g0, g1, g2]))
    (ho : f0.offset = 0 ∧ f1.offset = 3 ∧ g0.offset = 0 ∧ g1.offset = 1 ∧ g2.offset = 2) (hc : P.cellsOf f0.type = 3 ∧ P.cellsOf f1.type = 1 ∧ P.cellsOf g0.type = 1 ∧ P.cellsOf g1.type = 1 ∧ P.cellsOf g2.type = 1)
    (s1 : P.underlying f1.type = some .string) (t0 : P.underlying g0.type = some .string) (t1 : P.underlying g1.type = some (.int .i64)) (t2 : P.underlying g2.type = some (.int .i64))
    (hval : Value.okWide P w r b0 t v) (hd : DataW.Trod enc P w base spare held t v d ps) :
    ∃ ad len cap, ∃ l : List Ci, v = .slice ad len cap ∧ l.length = len ∧ len ≤ cap ∧ cap ≤ maxLen ∧ Row w ad (cv l) ∧ ∀ c ∈ l, c.key.length ≤ maxLen ∧ c.val.length ≤ maxLen ∧ (-9223372036854775808 ≤ c.seq ∧ c.seq ≤ 9223372036854775807) ∧ (-9223372036854775808 ≤ c.kind ∧ c.kind ≤ 9223372036854775807) := by
  obtain ⟨ad, len, cap, rfl⟩ := okWide_slice ht hval
  obtain ⟨fuel, hf⟩ := hd
  rcases open_slice ht hf with ⟨hcs, hx⟩ | ⟨a, l, c, m, n, D, Pl, hcs, hb, hl, hm, hmm, hx0, hx⟩
  · simp [Value.cells] at hcs
    obtain ⟨e1, e2, e3⟩ := hcs
    subst e1 e2 e3
    exact ⟨none, 0, 0, [], rfl, rfl, Nat.le_refl _, Nat.zero_le _, Row.nil _ _, fun c hc => by simp at hc⟩
  · simp [Value.cells] at hcs
    obtain ⟨e1, e2, e3⟩ := hcs
    subst e1 e2 e3
    have hlm : len ≤ m := by rw [hmm]; split <;> omega
    have each : ∀ i, i < m → ∃ q : Ci, (∀ k u, (c4 q)[k]? = some u → w.cell? (a.add (i * 4 + k)) = some u) ∧ q.key.length ≤ maxLen ∧ q.val.length ≤ maxLen ∧ (-9223372036854775808 ≤ q.seq ∧ q.seq ≤ 9223372036854775807) ∧ (-9223372036854775808 ≤ q.kind ∧ q.kind ≤ 9223372036854775807) := by
      intro i hi
      obtain ⟨cs', h1, h2⟩ := hx i hi
      rw [ce] at h1
      obtain ⟨_, hlen, hcell⟩ := World.cells?_some h1
      match cs', hlen with
      | [v0, v1, v2, v3], _ =>
        obtain ⟨q, e, hq⟩ := trod_cell (ver := e) he hv ho hc s1 t0 t1 t2 h2
        refine ⟨q, fun k u hku => ?_, hq⟩
        have hk4 : k < 4 := (List.getElem?_eq_some_iff.1 hku).1
        have := hcell k hk4
        rw [add_add] at this
        rw [this, e]
        exact hku
    obtain ⟨q, hq⟩ := choose_lt each
    have hlen : ((List.range len).map q).length = len := by simp
    refine ⟨some a, len, cap, (List.range len).map q, rfl, hlen, hl, hm, ?_, ?_⟩
    · intro i u hi
      have hil : i < len * 4 := by
        have := (List.getElem?_eq_some_iff.1 hi).1
        rw [cv_length, hlen] at this; exact this
      obtain ⟨b, off, spot⟩ := a
      have h0 := (hq 0 (by omega)).1 0 _ rfl
      have hspot : spot = none := by simpa [Addr.add] using World.cell?_spot h0
      subst hspot
      refine ⟨b, off, rfl, ?_⟩
      have hdm := Nat.div_add_mod i 4
      have hj : i / 4 < len := by omega
      have e : i = (i / 4) * 4 + i % 4 := by omega
      have hg := cv_get ((List.range len).map q) (i / 4) (by rw [hlen]; exact hj) (i % 4) (Nat.mod_lt _ (by omega))
      rw [← e, hi] at hg
      simp only [List.getElem_map, List.getElem_range] at hg
      have := (hq (i / 4) (by omega)).1 (i % 4) u hg.symm
      rw [Go.WideShapes.add_plain, ← e] at this
      exact this
    · intro c hc
      obtain ⟨i, hi, rfl⟩ := List.mem_map.1 hc
      exact (hq i (by have := List.mem_range.1 hi; omega)).2
end
end Go.Proofs.Ytpaogoehgkoaeaa
namespace Go.Proofs.Ytpaogoehgkoaeaa.assartStale
set_option linter.unusedSimpArgs false
open Go.ChangeShapes Go.WideShapes Go.ChangeAt Go.RowKit
open Go.ChangeMaps (open_string shut_string)
set_option linter.unusedVariables false
theorem own : ownKnob Try.prog.godebug = none := by kernel_rfl
theorem laidOut : laidOutB Try.prog = true := by kernel_rfl
set_option maxRecDepth 100000 in
theorem contract (H : Type) (enc : TypeId × Value → H) (W : World) (base : Nat) (args : Array Value) (ds gs : List (DataW H)) (before : List MemPlace)
    (hval0 : ∀ (j : Nat) t v, Try.f3.params[j]? = some t → args[j]? = some v → Value.okWide Try.prog W .any base t v)
    (hW : DataW.Whole enc Try.prog Try.f3.params.toList Rows.assartStaleSpec.vars false W args.toList ds gs before)
    (hsz0 : (DataW.weightsEach Try.prog (Try.f3.params.toList ++ Rows.assartStaleSpec.plain.varTypes Try.prog) (ds ++ gs)).all (· ≤ reachBytes) = true) :
    Calls Try.prog 3 args W fun e W' => ∃ v, e = .returned v ∧ Rows.assartStaleSpec.post enc Try.prog Try.f3 false true false false W args v W' := by
  have hval : ∀ (j : Nat) t v, Try.f3.params[j]? = some t → args[j]? = some v → Value.okWide Try.prog W .any base t v := hval0
  have hW' := hW
  obtain ⟨p, q, hA0, hV, rfl, hfz, hnd⟩ := hW
  have hA : DataW.TrodAll enc Try.prog W 0 (fun _ => true) true Try.f3.params.toList args.toList ds p := hA0
  have hsz : (DataW.weightsEach Try.prog (Try.f3.params.toList ++ Rows.assartStaleSpec.plain.varTypes Try.prog) (ds ++ gs)).all (· ≤ reachBytes) = true := hsz0
  rw [Try.params3] at hA hval hsz
  obtain ⟨v0, vs0, d0, ds0, p0, q0, hargs, rfl, rfl, h0, r0⟩ := trodAll_cons hA
  obtain ⟨v1, vs1, d1, ds1, p1, q1, rfl, rfl, rfl, h1, r1⟩ := trodAll_cons r0
  obtain ⟨rfl, rfl, rfl⟩ := trodAll_nil r1
  obtain rfl : args = #[v0, v1] := by cases args; simp_all
  obtain ⟨rfl, rfl⟩ := trodVars_none hV
  have k0 := h0
  have lt0 : ∀ x ∈ p0, x.block < W.heap.size := by obtain ⟨m, hm⟩ := k0; exact DataW.trod_lt m _ _ _ hm
  obtain ⟨ad0, len0, cap0, l0, rfl, hl0, hc0, hm0, hb0, hq0⟩ := open_cells Try.underlying22 (by kernel_rfl) Try.underlying36 Try.underlying34 ⟨rfl, rfl, rfl, rfl, rfl⟩ ⟨by kernel_rfl, by kernel_rfl, by kernel_rfl, by kernel_rfl, by kernel_rfl⟩ Try.underlying9 Try.underlying9 Try.underlying3 Try.underlying3 (hval 0 22 v0 rfl rfl) h0
  subst hl0
  have k1 := h1
  have lt1 : ∀ x ∈ p1, x.block < W.heap.size := by obtain ⟨m, hm⟩ := k1; exact DataW.trod_lt m _ _ _ hm
  obtain ⟨ad1, len1, cap1, l1, rfl, hl1, hc1, hm1, hb1, hq1⟩ := open_cells Try.underlying22 (by kernel_rfl) Try.underlying36 Try.underlying34 ⟨rfl, rfl, rfl, rfl, rfl⟩ ⟨by kernel_rfl, by kernel_rfl, by kernel_rfl, by kernel_rfl, by kernel_rfl⟩ Try.underlying9 Try.underlying9 Try.underlying3 Try.underlying3 (hval 1 22 v1 rfl rfl) h1
  subst hl1
  clear hA0 hval0
  refine (AssartStale_any ad0 cap0 l0 ad1 cap1 l1 W hb0 (len_of_ hc0 hm0) (fun c hc => le_of_max (hq0 c hc).2.1) hb1 (len_of_ hc1 hm1) (fun c hc => le_of_max (hq1 c hc).2.1)).mono fun e W' ⟨he, bel⟩ => ?_
  subst he
  exact ⟨_, rfl, _, _, _, [], _, [], hW', trodAll_mk1 (shut_bool Try.underlying4 _), (trodAll_cons_mk (Below.trod laidOut (by kernel_rfl) (of_decide_eq_true (by kernel_rfl)) k0 bel lt0) (trodAll_cons_mk (Below.trod laidOut (by kernel_rfl) (of_decide_eq_true (by kernel_rfl)) k1 bel lt1) trodAll_mk0)), rfl, bel.frame _, fun h => by cases h⟩
set_option maxRecDepth 100000 in
theorem lifted (os : Os) (started : os.Started) (H : Type) (enc : TypeId × Value → H) :
    ReturnsInHanded {} Try.checked os 3 .any (Rows.assartStaleSpec.pre6 enc Try.prog Try.f3 Rows.assartStaleRow.domain false) (Rows.assartStaleSpec.post enc Try.prog Try.f3 false true false false) := by
  refine returnsInHanded_of_change_sized (C := Try.checked) own started (by kernel_rfl) Try.func3
    (ChangeSpec.witness6 (enc := enc) (C := Try.checked) false ⟨#[], #[.slice none 0 0, .slice none 0 0], []⟩ 8 (by kernel_rfl) (by kernel_rfl) (by kernel_rfl) (by kernel_rfl)) ?_
  intro W base args ds gs before hval0 hW hcnd0 hsz0 _
  exact contract H enc W base args ds gs before hval0 hW hsz0
theorem over : Rows.assartStaleRow.holds Try.pinned (OpenSpec.ofChange Rows.assartStaleSpec) :=
  OpenClaim.holds_of_wide 3 Try.f3 rfl rfl rfl rfl rfl rfl rfl ⟨rfl, rfl, rfl, rfl, rfl⟩ rfl rfl rfl rfl rfl (by kernel_rfl) Try.func3 (by kernel_rfl)
    (of_decide_eq_true (by kernel_rfl)) (by unfold Func.isWrapper; first | (rw [if_pos (by decide +kernel)]; kernel_rfl) | (rw [if_neg (by decide +kernel)]; exact ⟨rfl, rfl⟩))
    (fun os started H enc _ => lifted os started H enc)
theorem proved : Rows.AssartStaleSaid := over
#print axioms proved
end Go.Proofs.Ytpaogoehgkoaeaa.assartStale
