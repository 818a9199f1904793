/- The statements through the layers: what AssartPieces leans on. -/
import Derived.Test.YtpaogoehgkoaeaaGreatDoorKeepKeep
import Derived.Test.YtpaogoehgkoaeaaGreatDoorKeepCut
import Derived.Test.YtpaogoehgkoaeaaGreatDoorTabTold
import Derived.Test.YtpaogoehgkoaeaaGreatDoorBunB4
namespace Go.Proofs.YtpaogoehgkoaeaaGreatDoor
set_option linter.unusedVariables false
set_option linter.unusedSimpArgs false
open Go.RowKit Tab Ikey Varint
/-- the contract of Build at any slice of cells -/
theorem tBuild_row (R : List Ci) (size bits : Int) (e : Nat) (b : List UInt8) (hb : buildT R size bits = (b, e)) (n : Nat) (hn : n = R.length) (hR : R.length ≤ 60) (ad : Option Addr) (cap : Nat) (w : World) (hc : n ≤ cap) (hr : Row w ad (cv R)) :
    Calls Tryz.prog 9 #[.slice ad n cap, .int .i64 size, .int .i64 bits] w fun x w' => ∃ ad' cap', x = .returned (.tuple #[.slice ad' b.length cap', .int .i64 (e : Int)]) ∧ Owns w' w.heap.size 5 1 ad' cap' b.length (bv b) ∧ Gr w w' := by
  subst hn
  have h := tBuild_any ad cap R size bits w (by omega) hc hr
  rw [hb] at h
  exact h
theorem Open_row {l : List Ci} {size bits : Int} (h : chkT l size bits = 0) (b : List UInt8) (hb : buildT l size bits = (b, 0)) (ad : Option Addr) (cap B : Nat) (w : World) (ho : Owns w B 5 1 ad cap b.length (bv b)) :
    Calls Tryz.prog 10 #[.slice ad b.length cap] w fun e w' => ∃ g, e = .returned (.tuple #[.pointer (some ⟨g, 0, none⟩), .int .i64 0]) ∧ TabAt w' g l (buildF (keysF l) bits).1 ∧ Gr w w' := by
  have e1 : (buildT l size bits).1 = b := by rw [hb]
  have h1 := Open_built h ad cap w (by rw [e1]; exact ho.2.1) ho.2.2.1 (by rw [e1]; exact ho.bytes)
  rw [e1] at h1
  exact h1
theorem build_pair {l : List Ci} {size bits : Int} (h : chkT l size bits = 0) : ∃ b, buildT l size bits = (b, 0) := ⟨(buildT l size bits).1, by have := (open_build h).2.1; rw [← this]⟩
theorem rCells_len (ad ad' : Option Addr) (n n' cap cap' : Nat) (A B : List Ci) (w : World) (hn : n = A.length) (hn' : n' = B.length) (ha : Row w ad (cv A)) (hb : Row w ad' (cv B)) (hl : A.length ≤ 500000000) (hl' : B.length ≤ 500000000) :
    Calls Tryz.prog 14 #[.slice ad n cap, .slice ad' n' cap'] w fun e w' => e = .returned (.bool (decide (A = B))) ∧ Gr w w' := by
  subst hn hn'
  exact rCells_any ad ad' cap cap' A B w ha hb hl hl'
theorem rCells_same (ad ad' : Option Addr) (n n' cap cap' : Nat) (A : List Ci) (w : World) (hn : n = A.length) (hn' : n' = A.length) (ha : Row w ad (cv A)) (hb : Row w ad' (cv A)) (hl : A.length ≤ 500000000) :
    Calls Tryz.prog 14 #[.slice ad n cap, .slice ad' n' cap'] w fun e w' => e = .returned (.bool true) ∧ Gr w w' :=
  (rCells_len ad ad' n n' cap cap' A A w hn hn' ha hb hl hl).mono fun e w' ⟨h1, h2⟩ => ⟨by rw [h1, decide_eq_true rfl], h2⟩
theorem okT_c {c : Ci} (h : okT c = true) : okC c = true ∧ c.key ≠ [] ∧ c.key.length ≤ 64 ∧ c.val.length ≤ 1000 := by
  unfold okT at h
  rw [Bool.and_eq_true, decide_eq_true_eq] at h
  obtain ⟨h1, h2⟩ := h
  have h3 := okV_of h1
  exact ⟨h1, h3.1, h3.2.1, h2⟩
theorem chkT_piece {l : List Ci} {size bits : Int} (h1 : 1 ≤ size) (h2 : size ≤ 4096) (h3 : 1 ≤ bits) (h4 : bits ≤ 64) (hl : l.length ≤ 5000) (hv : ∀ c ∈ l, c.val.length ≤ 1000) (hne : l ≠ []) (ho : ordF l = true) : chkT l size bits = 0 := by
  unfold chkT
  rw [if_neg (by omega), if_neg, if_pos ⟨hne, ho⟩]
  rintro (k | k)
  · omega
  · obtain ⟨c, hc, hb⟩ := List.any_eq_true.1 k
    have := hv c hc
    unfold bigC at hb
    rw [decide_eq_true_eq] at hb
    omega
/-- nothing comes ahead of a version without a key -/
theorem from_least {l : List Ci} (h : ∀ c ∈ l, c.key ≠ []) (n : Nat) (hn : l.length ≤ n) : (l.filter (fun c => !vless c.vr ⟨[], 0, 0⟩)).take n = l := by
  have e : l.filter (fun c => !vless c.vr ⟨[], 0, 0⟩) = l := by
    rw [List.filter_eq_self]
    intro c hc
    have hk := h c hc
    obtain ⟨k, s, d, v⟩ := c
    cases k with
    | nil => exact absurd rfl hk
    | cons x t => simp [vless, Ci.vr, lessF, Go.Op.bytesLess]
  rw [e, List.take_of_length_le hn]
theorem ord_sub {l m : List Ci} (h : ordF l = true) (hs : m.Sublist l) : ordF m = true :=
  asc_ord ((ord_asc h).sublist hs) (fun c hc => ord_ok h c (hs.subset hc))
theorem flat_sub {X : List (List (List Ci))} {i : Nat} (h : i < X.length) : X[i].flatten.Sublist (X.map List.flatten).flatten := by
  refine List.sublist_flatten_of_mem ?_
  exact List.mem_map_of_mem (List.getElem_mem h)
theorem keep_le (l : List Ci) (looks : List Int) (b : Bool) : (keepF l looks b).length ≤ l.length := by
  have h := ones_len (looksF looks) b (groupF l)
  rw [groupF_flat] at h
  exact h
/-- the pieces so far, and what is kept of them -/
def allP (X : List (List (List Ci))) (i : Nat) : List Ci := ((X.take i).map List.flatten).flatten
def keptP (X : List (List (List Ci))) (looks : List Int) (i : Nat) : List Ci := ((X.take i).map fun p => keepF p.flatten looks true).flatten
theorem allP_succ {X : List (List (List Ci))} {i : Nat} (h : i < X.length) : allP X (i + 1) = allP X i ++ X[i].flatten := by
  unfold allP
  rw [List.take_add_one, List.getElem?_eq_getElem h, List.map_append, List.flatten_append]
  simp
theorem keptP_succ {X : List (List (List Ci))} {looks : List Int} {i : Nat} (h : i < X.length) : keptP X looks (i + 1) = keptP X looks i ++ keepF X[i].flatten looks true := by
  unfold keptP
  rw [List.take_add_one, List.getElem?_eq_getElem h, List.map_append, List.flatten_append]
  simp
theorem allP_le : ∀ (X : List (List (List Ci))) (i : Nat), (allP X i).length ≤ ((X.map List.flatten).flatten).length := fun X i => by
  have h := congrArg List.length (congrArg (fun Y => (List.map List.flatten Y).flatten) (List.take_append_drop i X))
  simp only [List.map_append, List.flatten_append, List.length_append] at h
  unfold allP
  omega
theorem kept_le (X : List (List (List Ci))) (looks : List Int) : ∀ i, (keptP X looks i).length ≤ (allP X i).length := fun i => by
  unfold keptP allP
  induction X.take i with
  | nil => exact Nat.le_refl _
  | cons p Y ih =>
    have := keep_le p.flatten looks true
    rw [List.map_cons, List.map_cons, List.flatten_cons, List.flatten_cons, List.length_append, List.length_append]
    omega
end Go.Proofs.YtpaogoehgkoaeaaGreatDoor
