/- Layer 13 (block): the look: stand, First, Last, Next, Prev. -/
import Derived.Test.YtnbinodhdgnjlaaBlockOpen
import Derived.Test.YtnbinodhdgnjlaaBlockRun
namespace Go.Proofs.Ytnbinodhdgnjlaa
set_option linter.unusedVariables false
set_option linter.unusedSimpArgs false
open Go.RowKit Bk
/-- a look at a list, at place A, with run R read -/
def LK (w : World) (g base itv : Nat) (l : List Pr) (A R : Int) : Prop := KB w g base (dataN itv l l.length) (placeN itv l l.length) itv l.length A R (runI itv l R)
def posF (c : Nat) (i : Int) : Int := min (max i (-1)) (c : Int)
def endF (c : Nat) (a : Int) : Nat := if a < 0 ∨ a = (c : Int) then 15 else 0
theorem Bytes.grown {w w' : World} {ad : Option Addr} {l : List UInt8} {row : Option Nat} (hb : Bytes w ad l) (k : w.grownBy w' row) (hne : ∀ a, ad = some a → some a.block ≠ row) : Bytes w' ad l := fun i hi => by
  obtain ⟨b, off, e, hc⟩ := hb i hi
  refine ⟨b, off, e, ?_⟩
  have := k.block b (World.block_lt_of_cell? w _ hc) (hne _ e)
  unfold World.cell? at hc ⊢
  simp only at hc ⊢
  rw [this]; exact hc
theorem KB.grown {w w' : World} {g base : Nat} {d pl : List UInt8} {itv c : Nat} {A R : Int} {ps : List Pr} {row : Option Nat} (h : KB w g base d pl itv c A R ps) (k : w.grownBy w' row) (hg : some g ≠ row) (hr : ∀ x, row = some x → x < base) : KB w' g base d pl itv c A R ps := by
  obtain ⟨bd, od, c1, ad2, c2, ad, cap, h1, h2, h3, h4, h5, h6, h7, h8, h9, h10, h11, h12, h13⟩ := h
  refine ⟨bd, od, c1, ad2, c2, ad, cap, h1.grown k hg, h2, Nat.lt_of_lt_of_le h3 k.size, h4, h5, h6, h7, h8, h9, h10.grown k (fun x hx e => ?_), h11.grown k (fun x hx e => ?_), h12.grown k (fun x hx e => ?_), h13⟩
  · cases hx; have := hr _ e.symm; simp only at this; omega
  · have := hr _ e.symm; have := h5 x hx; omega
  · have := hr _ e.symm; have := (h12.lt x hx).1; omega
theorem KB.gr {w w' : World} {g base : Nat} {d pl : List UInt8} {itv c : Nat} {A R : Int} {ps : List Pr} (h : KB w g base d pl itv c A R ps) (k : Gr w w') : KB w' g base d pl itv c A R ps :=
  h.grown (row := none) k.far (fun e => by cases e) (fun x e => by cases e)
set_option maxRecDepth 100000 in
theorem KB.set_ {w : World} {g base : Nat} {d pl : List UInt8} {itv c : Nat} {A R : Int} {ps : List Pr} (h : KB w g base d pl itv c A R ps) (p : Int) : KB (w.setCell ⟨g, 4, none⟩ (.int .i64 p)) g base d pl itv c p R ps := by
  obtain ⟨bd, od, c1, ad2, c2, ad, cap, h1, h2, h3, h4, h5, h6, h7, h8, h9, h10, h11, h12, h13⟩ := h
  have k := grown_set w g 4 (.int .i64 p)
  refine ⟨bd, od, c1, ad2, c2, ad, cap, h1.set_ 4 _, h2, Nat.lt_of_lt_of_le h3 k.size, h4, h5, h6, h7, h8, h9, h10.grown k (fun x hx e => ?_), h11.grown k (fun x hx e => ?_), h12.grown k (fun x hx e => ?_), h13⟩
  · cases hx; cases e; exact h4 rfl
  · cases e; exact h4 (h5 x hx).symm
  · cases e; exact h13 x hx rfl
theorem KB.cells {w : World} {g base : Nat} {d pl : List UInt8} {itv c : Nat} {A R : Int} {ps : List Pr} (h : KB w g base d pl itv c A R ps) :
    w.cell? ⟨g, 2, none⟩ = some (.int .i64 (itv : Int)) ∧ w.cell? ⟨g, 3, none⟩ = some (.int .i64 (c : Int)) ∧ w.cell? ⟨g, 4, none⟩ = some (.int .i64 A) ∧ w.cell? ⟨g, 5, none⟩ = some (.int .i64 R) ∧ ∀ i, w.frozen? ⟨g, i, none⟩ = false := by
  obtain ⟨bd, od, c1, ad2, c2, ad, cap, h1, _⟩ := h
  exact ⟨h1.cell rfl, h1.cell rfl, h1.cell rfl, h1.cell rfl, h1.frozen⟩
/-- nothing that the look has lies in block gp -/
def Away (w : World) (g gp : Nat) : Prop := ∀ i ad n cap, w.cell? ⟨g, i, none⟩ = some (.slice ad n cap) → ∀ x, ad = some x → x.block ≠ gp
theorem KB.away {w w' : World} {g base gp : Nat} {d pl : List UInt8} {itv c : Nat} {A R : Int} {ps : List Pr} (h : KB w g base d pl itv c A R ps) (ha : Away w g gp) (hne : gp ≠ g) (k : w.grownBy w' (some gp)) : KB w' g base d pl itv c A R ps := by
  obtain ⟨bd, od, c1, ad2, c2, ad, cap, h1, h2, h3, h4, h5, h6, h7, h8, h9, h10, h11, h12, h13⟩ := h
  have a0 := ha 0 _ _ _ (h1.cell rfl)
  have a1 := ha 1 _ _ _ (h1.cell rfl)
  have a6 := ha 6 _ _ _ (h1.cell rfl)
  exact ⟨bd, od, c1, ad2, c2, ad, cap, h1.grown k (fun e => hne (Option.some.inj e).symm), h2, Nat.lt_of_lt_of_le h3 k.size, h4, h5, h6, h7, h8, h9, h10.grown k (fun x hx e => a0 x hx (Option.some.inj e)), h11.grown k (fun x hx e => a1 x hx (Option.some.inj e)), h12.grown k (fun x hx e => a6 x hx (Option.some.inj e)), h13⟩
theorem Away.of {w : World} {g gp : Nat} {t : TypeId} {s0 s1 s6 v2 v3 v4 v5 : Value} (h : Blk w g t [s0, s1, v2, v3, v4, v5, s6]) (h0 : ∀ x n c, s0 = .slice (some x) n c → x.block ≠ gp) (h1 : ∀ x n c, s1 = .slice (some x) n c → x.block ≠ gp) (h2 : ∀ x n c, v2 = .slice (some x) n c → x.block ≠ gp) (h3 : ∀ x n c, v3 = .slice (some x) n c → x.block ≠ gp) (h4 : ∀ x n c, v4 = .slice (some x) n c → x.block ≠ gp) (h5 : ∀ x n c, v5 = .slice (some x) n c → x.block ≠ gp) (h6 : ∀ x n c, s6 = .slice (some x) n c → x.block ≠ gp) : Away w g gp := by
  intro i ad n cap hc x hx
  subst hx
  unfold World.cell? at hc
  unfold Blk at h
  simp only [h] at hc
  match i, hc with
  | 0, hc => exact h0 x n cap (by simpa using hc)
  | 1, hc => exact h1 x n cap (by simpa using hc)
  | 2, hc => exact h2 x n cap (by simpa using hc)
  | 3, hc => exact h3 x n cap (by simpa using hc)
  | 4, hc => exact h4 x n cap (by simpa using hc)
  | 5, hc => exact h5 x n cap (by simpa using hc)
  | 6, hc => exact h6 x n cap (by simpa using hc)
  | i + 7, hc => simp at hc
theorem Away.same {w w' : World} {g gp : Nat} (h : Away w g gp) (hs : w'.heap[g]? = w.heap[g]?) : Away w' g gp := fun i ad n cap hc => h i ad n cap (by unfold World.cell? at hc ⊢; simp only at hc ⊢; rw [← hs]; exact hc)
theorem KB.fresh {w : World} {g base gp : Nat} {d pl : List UInt8} {itv c : Nat} {A R : Int} {ps : List Pr} (h : KB w g base d pl itv c A R ps) (hgp : w.heap.size ≤ gp) : Away w g gp := by
  obtain ⟨bd, od, c1, ad2, c2, ad, cap, h1, h2, h3, h4, h5, h6, h7, h8, h9, h10, h11, h12, h13⟩ := h
  refine Away.of h1 (fun x n c e => by cases e; simp only; omega) (fun x n c e => by cases e; have := h5 _ rfl; omega) (fun x n c e => by cases e) (fun x n c e => by cases e) (fun x n c e => by cases e) (fun x n c e => by cases e) (fun x n c e => by cases e; have := (h12.lt _ rfl).2; omega)
theorem KB.lt {w : World} {g base : Nat} {d pl : List UInt8} {itv c : Nat} {A R : Int} {ps : List Pr} (h : KB w g base d pl itv c A R ps) : g < w.heap.size ∧ base ≤ w.heap.size := by
  obtain ⟨bd, od, c1, ad2, c2, ad, cap, h1, h2, h3, _⟩ := h
  exact ⟨h1.lt, by omega⟩
/-- only the look's block has changed, and it has nothing that was another's -/
structure Kept (g : Nat) (w w' : World) : Prop where
  far : w.grownBy w' (some g)
  away : ∀ gp, gp < w.heap.size → Away w g gp → Away w' g gp
theorem Kept.trans {g : Nat} {a b c : World} (h : Kept g a b) (k : Kept g b c) : Kept g a c := ⟨grown_trans h.far k.far, fun gp hgp ha => k.away gp (Nat.lt_of_lt_of_le hgp h.far.size) (h.away gp hgp ha)⟩
theorem Gr.look {g : Nat} {w w' : World} (h : Gr w w') (hg : g < w.heap.size) : Kept g w w' := ⟨h.far, fun _ _ ha => ha.same (h.block g hg)⟩
theorem Kept.set4 {w : World} {g : Nat} (p : Int) : Kept g w (w.setCell ⟨g, 4, none⟩ (.int .i64 p)) := ⟨grown_set w g 4 _, fun gp _ ha i ad n cap hc x hx => by
  refine ha i ad n cap ?_ x hx
  unfold World.cell? at hc ⊢
  unfold World.setCell at hc
  simp only [Array.getElem?_modify] at hc
  cases ho : w.heap[g]? with
  | none => rw [ho] at hc; simp at hc
  | some o =>
    rw [ho] at hc
    cases o with
    | cells cs e fr =>
      simp only [if_true, Option.map_some, Option.isSome_none, Bool.false_eq_true, if_false] at hc ⊢
      by_cases h4 : i = 4
      · subst h4
        by_cases hs : 4 < cs.size
        · simp [hs] at hc
        · simp [hs] at hc
      · rw [Array.getElem?_setIfInBounds_ne (fun e => h4 e.symm)] at hc
        exact hc
    | _ => simp at hc⟩
set_option maxRecDepth 100000 in
theorem stand_any (w : World) (g base itv : Nat) (l : List Pr) (A R i : Int) (h : LK w g base itv l A R) :
    Calls Try.prog 45 #[.pointer (some ⟨g, 0, none⟩), .int .i64 i] w fun e w' => e = .returned (.int .i64 (endF l.length (posF l.length i) : Int)) ∧ Kept g w w' ∧ LK w' g base itv l (posF l.length i) R := by
  obtain ⟨hc2, hc3, hc4, hc5, hfz⟩ := h.cells
  have hf4 := hfz 4
  obtain ⟨p, hp⟩ : ∃ p, min (max i (-1)) (l.length : Int) = p := ⟨_, rfl⟩
  have HN := Lib.hid (show posF l.length i = p from hp)
  have HS := Lib.hid (h.set_ p)
  clear h hfz
  by_cases h0 : p < 0
  · go_enter Try.func45, Try.ntmps45
    go_wp2
    go_quiet (fail)
    go_wp2
    go_ret
    rw [HN.out]
    exact ⟨by unfold endF; first | rw [if_pos (by omega)]; rfl | rw [if_neg (by omega)]; rfl, (Kept.set4 _).trans ((Gr.drewN _ nq).look (KB.lt HS.out).1), KB.gr HS.out (Gr.drewN _ nq)⟩
  · by_cases h9 : p = (l.length : Int)
    · subst h9
      go_enter Try.func45, Try.ntmps45
      go_wp2
      go_quiet (fail)
      go_wp2
      go_ret
      rw [HN.out]
      exact ⟨by unfold endF; first | rw [if_pos (by omega)]; rfl | rw [if_neg (by omega)]; rfl, (Kept.set4 _).trans ((Gr.drewN _ nq).look (KB.lt HS.out).1), KB.gr HS.out (Gr.drewN _ nq)⟩
    · have hz : (p == (l.length : Int)) = false := by rw [beq_eq_false_iff_ne]; exact h9
      go_enter Try.func45, Try.ntmps45
      go_wp2
      go_quiet (fail)
      go_wp2
      go_ret
      rw [HN.out]
      exact ⟨by unfold endF; first | rw [if_pos (by omega)]; rfl | rw [if_neg (by omega)]; rfl, (Kept.set4 _).trans ((Gr.drewN _ nq).look (KB.lt HS.out).1), KB.gr HS.out (Gr.drewN _ nq)⟩
theorem First_any (w : World) (g base itv : Nat) (l : List Pr) (A R : Int) (h : LK w g base itv l A R) :
    Calls Try.prog 21 #[.pointer (some ⟨g, 0, none⟩)] w fun e w' => e = .returned (.int .i64 (endF l.length (posF l.length 0) : Int)) ∧ Kept g w w' ∧ LK w' g base itv l (posF l.length 0) R := by
  have H := Lib.hid (stand_any w g base itv l A R 0 h)
  clear h
  go_enter Try.func21, Try.ntmps21
  go_wp2_with (go_at_call 45; refine H.out.mono ?_; rintro e w1 ⟨rfl, k1, l1⟩)
  go_ret
  exact ⟨rfl, k1, l1⟩
theorem Last_any (w : World) (g base itv : Nat) (l : List Pr) (A R : Int) (hl : l.length ≤ 10000) (h : LK w g base itv l A R) :
    Calls Try.prog 23 #[.pointer (some ⟨g, 0, none⟩)] w fun e w' => e = .returned (.int .i64 (endF l.length (posF l.length ((l.length : Int) - 1)) : Int)) ∧ Kept g w w' ∧ LK w' g base itv l (posF l.length ((l.length : Int) - 1)) R := by
  obtain ⟨hc2, hc3, hc4, hc5, hfz⟩ := h.cells
  have H := Lib.hid (fun i => stand_any w g base itv l A R i h)
  clear h
  go_enter Try.func23, Try.ntmps23
  go_wp2_with (go_at_call 45; refine (H.out _).mono ?_; rintro e w1 ⟨rfl, k1, l1⟩)
  go_ret
  exact ⟨rfl, k1, l1⟩
theorem Next_any (w : World) (g base itv : Nat) (l : List Pr) (A R : Int) (hl : l.length ≤ 10000) (hA : -1 ≤ A) (hA2 : A ≤ (l.length : Int)) (h : LK w g base itv l A R) :
    Calls Try.prog 26 #[.pointer (some ⟨g, 0, none⟩)] w fun e w' => e = .returned (.int .i64 (endF l.length (posF l.length (A + 1)) : Int)) ∧ Kept g w w' ∧ LK w' g base itv l (posF l.length (A + 1)) R := by
  obtain ⟨hc2, hc3, hc4, hc5, hfz⟩ := h.cells
  have H := Lib.hid (fun i => stand_any w g base itv l A R i h)
  clear h
  go_enter Try.func26, Try.ntmps26
  go_wp2_with (go_at_call 45; refine (H.out _).mono ?_; rintro e w1 ⟨rfl, k1, l1⟩)
  go_ret
  exact ⟨rfl, k1, l1⟩
theorem Prev_any (w : World) (g base itv : Nat) (l : List Pr) (A R : Int) (hl : l.length ≤ 10000) (hA : -1 ≤ A) (hA2 : A ≤ (l.length : Int)) (h : LK w g base itv l A R) :
    Calls Try.prog 20 #[.pointer (some ⟨g, 0, none⟩)] w fun e w' => e = .returned (.int .i64 (endF l.length (posF l.length (A - 1)) : Int)) ∧ Kept g w w' ∧ LK w' g base itv l (posF l.length (A - 1)) R := by
  obtain ⟨hc2, hc3, hc4, hc5, hfz⟩ := h.cells
  have H := Lib.hid (fun i => stand_any w g base itv l A R i h)
  clear h
  go_enter Try.func20, Try.ntmps20
  go_wp2_with (go_at_call 45; refine (H.out _).mono ?_; rintro e w1 ⟨rfl, k1, l1⟩)
  go_ret
  exact ⟨rfl, k1, l1⟩
theorem posF_in (c : Nat) (i : Int) : -1 ≤ posF c i ∧ posF c i ≤ (c : Int) := by unfold posF; omega
end Go.Proofs.Ytnbinodhdgnjlaa
