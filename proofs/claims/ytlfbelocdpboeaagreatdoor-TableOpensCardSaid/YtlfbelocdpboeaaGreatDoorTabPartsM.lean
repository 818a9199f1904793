/- Layer 14 (table): what the laws on whole tables lean on. -/
import Derived.Test.YtlfbelocdpboeaaGreatDoorTabSpoils
namespace Go.Proofs.YtlfbelocdpboeaaGreatDoor
set_option linter.unusedVariables false
set_option linter.unusedSimpArgs false
open Go.RowKit Tab
theorem chkT_sub {l m : List Ci} {size bits : Int} (h : chkT l size bits = 0) (hs : m.Sublist l) (hm : m ≠ []) : chkT m size bits = 0 := by
  obtain ⟨s1, s2, b1, b2, h5, hbig, hne, ho⟩ := chkT_ok h
  have hl := hs.length_le
  have k1 : ¬ (5000 < m.length ∨ m.any bigC = true) := by
    rintro (k | k)
    · omega
    · obtain ⟨c, hc, hb⟩ := List.any_eq_true.1 k
      have := big_le hbig c (hs.subset hc)
      unfold bigC at hb
      rw [decide_eq_true_eq] at hb
      omega
  unfold chkT
  rw [if_neg (by omega), if_neg k1, if_pos ⟨hm, asc_ord ((ord_asc ho).sublist hs) (fun c hc => ord_ok ho c (hs.subset hc))⟩]
/-- the contract of Build at any slice of cells -/
theorem tBuild_row (R : List Ci) (size bits : Int) (e : Nat) (b : List UInt8) (hb : buildT R size bits = (b, e)) (n : Nat) (hn : n = R.length) (hR : R.length ≤ 60) (ad : Option Addr) (cap : Nat) (w : World) (hc : n ≤ cap) (hr : Row w ad (cv R)) :
    Calls Tryz.prog 7 #[.slice ad n cap, .int .i64 size, .int .i64 bits] w fun x w' => ∃ ad' cap', x = .returned (.tuple #[.slice ad' b.length cap', .int .i64 (e : Int)]) ∧ Owns w' w.heap.size 5 1 ad' cap' b.length (bv b) ∧ Gr w w' := by
  subst hn
  have h := tBuild_any ad cap R size bits w (by omega) hc hr
  rw [hb] at h
  exact h
theorem Open_row {l : List Ci} {size bits : Int} (h : chkT l size bits = 0) (b : List UInt8) (hb : buildT l size bits = (b, 0)) (ad : Option Addr) (cap B : Nat) (w : World) (ho : Owns w B 5 1 ad cap b.length (bv b)) :
    Calls Tryz.prog 10 #[.slice ad b.length cap] w fun e w' => ∃ g, e = .returned (.tuple #[.pointer (some ⟨g, 0, none⟩), .int .i64 0]) ∧ TabAt w' g l (buildF (keysF l) bits).1 ∧ Gr w w' := by
  have e1 : (buildT l size bits).1 = b := by rw [hb]
  have h1 := Open_built h ad cap w (by rw [e1]; exact ho.2.1) ho.2.2.1 (by rw [e1]; exact ho.bytes)
  rw [e1] at h1
  exact h1
theorem build_pair {l : List Ci} {size bits : Int} (h : chkT l size bits = 0) : ∃ b, buildT l size bits = (b, 0) := ⟨(buildT l size bits).1, by have := (open_build h).2.1; rw [← this]⟩
theorem rCells_len (ad ad' : Option Addr) (n n' cap cap' : Nat) (A B : List Ci) (w : World) (hn : n = A.length) (hn' : n' = B.length) (ha : Row w ad (cv A)) (hb : Row w ad' (cv B)) (hl : A.length ≤ 500000000) (hl' : B.length ≤ 500000000) :
    Calls Tryz.prog 14 #[.slice ad n cap, .slice ad' n' cap'] w fun e w' => e = .returned (.bool (decide (A = B))) ∧ Gr w w' := by
  subst hn hn'
  exact rCells_any ad ad' cap cap' A B w ha hb hl hl'
theorem rCells_same (ad ad' : Option Addr) (n n' cap cap' : Nat) (A : List Ci) (w : World) (hn : n = A.length) (hn' : n' = A.length) (ha : Row w ad (cv A)) (hb : Row w ad' (cv A)) (hl : A.length ≤ 500000000) :
    Calls Tryz.prog 14 #[.slice ad n cap, .slice ad' n' cap'] w fun e w' => e = .returned (.bool true) ∧ Gr w w' :=
  (rCells_len ad ad' n n' cap cap' A A w hn hn' ha hb hl hl).mono fun e w' ⟨h1, h2⟩ => ⟨by rw [h1, decide_eq_true rfl], h2⟩
theorem take_all {C : List Ci} {p : Ci → Bool} {n : Nat} (h : C.length ≤ n) : (C.filter p).take n = C.filter p := List.take_of_length_le (Nat.le_trans (List.length_filter_le _ _) h)
theorem take_all_rev {C : List Ci} {p : Ci → Bool} {n : Nat} (h : C.length ≤ n) : (C.filter p).reverse.take n = (C.filter p).reverse := List.take_of_length_le (by rw [List.length_reverse]; exact Nat.le_trans (List.length_filter_le _ _) h)
theorem row_halves {w : World} {g : Nat} {R : List Ci} (k : Nat) (h : Row w (some ⟨g, 0, none⟩) (cv R)) : Row w (some ⟨g, 0, none⟩) (cv (R.take k)) ∧ Row w (some ⟨g, k * 4, none⟩) (cv (R.drop k)) := by
  refine ⟨?_, ?_⟩
  · rw [cv_take]
    intro i u hi
    rw [List.getElem?_take] at hi
    split at hi
    · exact h i u hi
    · cases hi
  · rw [cv_drop]
    have := h.drop_ (k * 4)
    rwa [Nat.zero_add] at this
theorem ne_row {w w2 : World} {B B2 : Nat} {e e2 : TypeId} {s s2 : Nat} {ad ad2 : Option Addr} {c c2 n n2 : Nat} {xs xs2 : List Value} (o : Owns w B e s ad c n xs) (o2 : Owns w2 B2 e2 s2 ad2 c2 n2 xs2) (h : w.heap.size ≤ B2) : ∀ a, ad = some a → some a.block ≠ ad2.map (·.block) := by
  intro a ha hb
  have h1 := (o.lt a ha).2
  cases ad2 with
  | none => cases hb
  | some q =>
    have h2 := (o2.lt q rfl).1
    simp only [Option.map_some, Option.some.injEq] at hb
    omega
theorem ne_row' {w w2 : World} {B B2 : Nat} {e e2 : TypeId} {s s2 : Nat} {ad ad2 : Option Addr} {c c2 n n2 : Nat} {xs xs2 : List Value} (o : Owns w B e s ad c n xs) (o2 : Owns w2 B2 e2 s2 ad2 c2 n2 xs2) (h : w2.heap.size ≤ B) : ∀ a, ad = some a → some a.block ≠ ad2.map (·.block) := by
  intro a ha hb
  have h1 := (o.lt a ha).1
  cases ad2 with
  | none => cases hb
  | some q =>
    have h2 := (o2.lt q rfl).2
    simp only [Option.map_some, Option.some.injEq] at hb
    omega
theorem grown_own {a w w' w2 : World} {B2 : Nat} {e2 : TypeId} {s2 : Nat} {ad2 : Option Addr} {c2 n2 : Nat} {xs2 : List Value} (g : Gr a w) (k : w.grownBy w' (ad2.map (·.block))) (o2 : Owns w2 B2 e2 s2 ad2 c2 n2 xs2) (h : a.heap.size ≤ B2) : Gr a w' :=
  g.grown k fun x hx => by
    cases ad2 with
    | none => cases hx
    | some q => cases hx; exact Nat.le_trans h (o2.lt q rfl).1
/-- an append behind '&&' -/
theorem wp_append_if {P : Program} {t u e : TypeId} {z : Value} {size bytes : Nat} (E : Elem P t e z size bytes) {w : World} {ops : Array Oper} {rest : List Oper} {o : Oper} {a : Act} {Q : Exit → Act → World → Prop} (hgd : Region.wanted o (yielded ops a.tmps) = true) (s x : Operand)
    (ho : o.op = .call { callee := .builtin .append, args := #[s, x], argTypes := #[t, u] })
    {base : Nat} {ad : Option Addr} {cap n : Nat} {xs : List Value} (hs : a.eval s = .slice ad n cap) (hown : Owns w base e size ad cap n xs)
    {xv : Value} {m : Nat} {news : List Value} (hxv : a.eval x = xv) (hx : Src P u w size xv m news)
    (h63 : n + m ≤ maxLen) (hbytes : (n + m) * bytes ≤ 140737488355328) (hbase : base ≤ w.heap.size)
    (h : ∀ ad' cap' w', Owns w' base e size ad' cap' (n + m) (xs ++ news) → w.grownBy w' (ad.map (·.block)) → (∀ a, ad' = some a → ad = some a ∨ w.heap.size ≤ a.block) → wpList P ops Q rest (a.put o.dst (.slice ad' (n + m) cap')) w') :
    wpList P ops Q (o :: rest) a w := by
  refine wpList_step fun K hK => ?_
  rw [if_pos hgd]
  obtain ⟨ad', cap', w', hr, h2, h3, h4⟩ := run_append (u := u) (ty := o.type) E hown hx h63 hbytes hbase
  unfold Oper.wp execOp
  simp only [ho, resolve, invoke, builtin, Sem.run_bind, Sem.run_pure, Result.andThen_ok, List.map_toArray, List.map_cons, List.map_nil, hs, hxv, hr]
  exact hK _ _ (h ad' cap' w' h2 h3 h4)
end Go.Proofs.YtlfbelocdpboeaaGreatDoor
