/- Layer 12 (epoch): epochs in memory; none, Now, Oldest, Live walked. -/
import Derived.Test.YtpaogoehgkoaeaaGreatDoorQEpLib
import Derived.Test.YtpaogoehgkoaeaaGreatDoorQBunB0
import Derived.Test.YtpaogoehgkoaeaaGreatDoorQBunB3
import Derived.Maps.OwnSet
import Derived.Maps.RangeWalk
import Derived.DeepKeys4
import Derived.Carry
namespace Go.Proofs.YtpaogoehgkoaeaaGreatDoor
set_option linter.unusedVariables false
set_option linter.unusedSimpArgs false
open Go.RowKit Go.Maps
/-- an epoch that wasn't freed: its number, its block, its region, its notes and how many, its bytes -/
structure Era where
  k : Nat
  b : Nat
  r : Nat
  n : Nat
  m : Nat
  c : Nat
/-- how a pointer in a map is read -/
def Rp : Value → Option (DataW Unit × List MemPlace)
  | .pointer none => some (.lit (.bool false), [])
  | .pointer (some ⟨b, 0, none⟩) => some (.lit (.int .i64 (b : Int)), [])
  | _ => none
theorem Rp_inv {v : Value} {b : Nat} {ps : List MemPlace} (h : Rp v = some (.lit (.int .i64 (b : Int)), ps)) : v = .pointer (some ⟨b, 0, none⟩) := by
  unfold Rp at h
  split at h
  · cases h
  · simp only [Option.some.injEq, Prod.mk.injEq, DataW.lit.injEq, Lit.int.injEq, true_and] at h
    obtain ⟨h1, _⟩ := h
    have := Int.ofNat.inj h1
    rw [this]
  · cases h
def entD (e : Era) : Lit × DataW Unit := (.int .i64 (e.k : Int), .lit (.int .i64 (e.b : Int)))
def liveD (K : List Era) : DataW Unit := .map (K.map entD)
theorem live_size (K : List Era) : Maps.size (liveD K) = K.length := by simp [liveD, Maps.size]
theorem live_keys (K : List Era) : intKeys (liveD K) = K.map fun e => (e.k : Int) := by
  unfold liveD intKeys
  simp only [List.map_map]
  rfl
theorem live_put {K : List Era} {e : Era} (h : ∀ x ∈ K, x.k < e.k) : (liveD K).put (.int .i64 (e.k : Int)) (.lit (.int .i64 (e.b : Int))) = liveD (K ++ [e]) := by
  unfold liveD DataW.put
  simp only
  have h1 : (K.map entD).filter (fun p => !p.1.sameKey (.int .i64 (e.k : Int))) = K.map entD := by
    rw [List.filter_eq_self]
    intro p hp
    obtain ⟨x, hx, rfl⟩ := List.mem_map.1 hp
    have := h x hx
    simp [entD, Lit.sameKey]
    omega
  rw [h1]
  congr 1
  clear h1
  induction K with
  | nil => rfl
  | cons x K ih =>
    have h2 := h x (by simp)
    rw [List.map_cons, DataW.insert, if_neg, ih (fun y hy => h y (List.mem_cons_of_mem _ hy))]
    · rfl
    · simp [entD, Lit.before]; omega
theorem live_at1 (e : Era) (zd : DataW Unit) : (liveD [e]).atKey (.int .i64 (e.k : Int)) zd = .lit (.int .i64 (e.b : Int)) := by simp [liveD, DataW.atKey, entD, Lit.sameKey]
theorem live_at2 (e f : Era) (zd : DataW Unit) : (liveD [e, f]).atKey (.int .i64 (e.k : Int)) zd = .lit (.int .i64 (e.b : Int)) := by simp [liveD, DataW.atKey, entD, Lit.sameKey]
theorem live_del2 {e f : Era} (h : e.k < f.k) : (liveD [e, f]).del (.int .i64 (e.k : Int)) = liveD [f] := by
  have h1 : ¬ f.k = e.k := by omega
  simp [liveD, DataW.del, entD, Lit.sameKey]
  omega
/-- a map bears as many entries as it reads -/
theorem ownsMap_tight {H : Type} {P : Program} {k : TypeId} {R : Value → Option (DataW H × List MemPlace)} {w : World} {b n : Nat} {D : DataW H} (h : w.ownsMap P k R b n D) : w.ownsMap P k R b (Maps.size D) D := by
  obtain ⟨es, clock, hb, F, hs, rfl⟩ := h
  exact ⟨es, clock, hb, F, by simp [Maps.size, length_sorted], rfl⟩
theorem ownsMap_block {H : Type} {P : Program} {k : TypeId} {R : Value → Option (DataW H × List MemPlace)} {w w' : World} {b n : Nat} {D : DataW H} (h : w.ownsMap P k R b n D) (e : w'.heap[b]? = w.heap[b]?) : w'.ownsMap P k R b n D := by
  obtain ⟨es, clock, hb, rest⟩ := h
  exact ⟨es, clock, e.trans hb, rest⟩
theorem ownsMap_gr {H : Type} {P : Program} {k : TypeId} {R : Value → Option (DataW H × List MemPlace)} {w w' : World} {b n : Nat} {D : DataW H} (h : w.ownsMap P k R b n D) (g : Gr w w') : w'.ownsMap P k R b n D :=
  ownsMap_block h (g.block b h.lt)
def epV (g now bl bp : Nat) : List Value := [.pointer (some ⟨g, 0, none⟩), .int .i64 (now : Int), .map (some bl), .map (some bp), .int .i64 0, .bool false]
def eraV (e : Era) : List Value := [.int .i64 (e.r : Int), .map (some e.n), .int .i64 (e.c : Int)]
def pinD : DataW Unit := .map []
structure EraAt (w : World) (e : Era) : Prop where
  blk : Blk w e.b 146 (eraV e)
  notes : ∃ D : DataW Unit, w.ownsMap Tryz.prog 60 unitElem e.n e.m D
structure Ep (w : World) (g ge bl bp now : Nat) (K : List Era) : Prop where
  eb : Blk w ge 128 (epV g now bl bp)
  live : w.ownsMap Tryz.prog 3 Rp bl K.length (liveD K)
  pins : w.ownsMap Tryz.prog 3 (plainElem (H := Unit) Tryz.prog 3) bp 0 pinD
  era : ∀ e ∈ K, EraAt w e
  sep : bl ≠ bp ∧ ∀ e ∈ K, e.n ≠ bl ∧ e.n ≠ bp
  dist : K.Pairwise fun a b => a.k < b.k ∧ a.b ≠ b.b ∧ a.n ≠ b.n
  le : ∀ e ∈ K, e.k ≤ now
/-- the blocks of epochs -/
def epB (ge bl bp : Nat) (K : List Era) (j : Nat) : Prop := j = ge ∨ j = bl ∨ j = bp ∨ ∃ e ∈ K, j = e.b ∨ j = e.n
section
variable {w w' : World} {g ge bl bp now : Nat} {K : List Era}
theorem Ep.keep (h : Ep w g ge bl bp now K) (k : ∀ j, epB ge bl bp K j → w'.heap[j]? = w.heap[j]?) : Ep w' g ge bl bp now K :=
  ⟨(k _ (.inl rfl)).trans h.eb, ownsMap_block h.live (k _ (.inr (.inl rfl))), ownsMap_block h.pins (k _ (.inr (.inr (.inl rfl)))), fun e he => ⟨(k _ (.inr (.inr (.inr ⟨e, he, .inl rfl⟩)))).trans (h.era e he).blk, by
    obtain ⟨D, hD⟩ := (h.era e he).notes
    exact ⟨D, ownsMap_block hD (k _ (.inr (.inr (.inr ⟨e, he, .inr rfl⟩))))⟩⟩, h.sep, h.dist, h.le⟩
theorem Ep.lt (h : Ep w g ge bl bp now K) {j : Nat} (hj : epB ge bl bp K j) : j < w.heap.size := by
  rcases hj with rfl | rfl | rfl | ⟨e, he, rfl | rfl⟩
  · exact h.eb.lt
  · exact h.live.lt
  · exact h.pins.lt
  · exact (h.era e he).blk.lt
  · obtain ⟨D, hD⟩ := (h.era e he).notes
    exact hD.lt
theorem Ep.gr (h : Ep w g ge bl bp now K) (k : Gr w w') : Ep w' g ge bl bp now K := h.keep fun j hj => k.block j (h.lt hj)
end
theorem map_ne_blk {H : Type} {P : Program} {k : TypeId} {R : Value → Option (DataW H × List MemPlace)} {w : World} {b n g : Nat} {D : DataW H} {t : TypeId} {cs : List Value} (h : w.ownsMap P k R b n D) (hb : Blk w g t cs) : b ≠ g := fun e => by
  obtain ⟨es, clock, h1, _⟩ := h
  unfold Blk at hb
  rw [e, hb] at h1
  cases h1
theorem blk_ne_typ {w : World} {g g' : Nat} {t t' : TypeId} {cs cs' : List Value} (h : Blk w g t cs) (h' : Blk w g' t' cs') (ht : t ≠ t') : g ≠ g' := fun e => by
  unfold Blk at h h'
  rw [e, h'] at h
  cases h
  exact ht rfl
theorem eb_cells {w : World} {g ge bl bp now : Nat} (h : Blk w ge 128 (epV g now bl bp)) :
    w.cell? ⟨ge, 0, none⟩ = some (.pointer (some ⟨g, 0, none⟩)) ∧ w.cell? ⟨ge, 1, none⟩ = some (.int .i64 (now : Int)) ∧ w.cell? ⟨ge, 2, none⟩ = some (.map (some bl)) ∧ w.cell? ⟨ge, 3, none⟩ = some (.map (some bp)) ∧ w.cell? ⟨ge, 5, none⟩ = some (.bool false) :=
  ⟨h.cell (i := 0) rfl, h.cell (i := 1) rfl, h.cell (i := 2) rfl, h.cell (i := 3) rfl, h.cell (i := 5) rfl⟩
set_option maxRecDepth 100000 in
theorem enone_any {w : World} {g ge bl bp now : Nat} (h : Blk w ge 128 (epV g now bl bp)) : Calls Tryz.prog 69 #[.pointer (some ⟨ge, 0, none⟩)] w fun e w' => e = .returned (.bool false) ∧ w = w' := by
  obtain ⟨_, _, _, _, c5⟩ := eb_cells h
  clear h
  go_enter Tryz.func69, Tryz.ntmps69
  go_wp2
  go_ret
  exact ⟨rfl, rfl⟩
set_option maxRecDepth 100000 in
theorem enow_any {w : World} {g ge bl bp now : Nat} (h : Blk w ge 128 (epV g now bl bp)) : Calls Tryz.prog 118 #[.pointer (some ⟨ge, 0, none⟩)] w fun e w' => e = .returned (.int .i64 (now : Int)) ∧ w = w' := by
  have HN := Lib.hid (enone_any h)
  obtain ⟨_, c1, _, _, _⟩ := eb_cells h
  clear h
  go_enter Tryz.func118, Tryz.ntmps118
  go_wp2_with (first
    | (go_at_call 69; go_must (refine HN.out.mono ?_); rintro e w' ⟨rfl, rfl⟩)
    | fail)
  go_ret
  exact ⟨rfl, rfl⟩
set_option maxRecDepth 100000 in
set_option maxHeartbeats 1000000 in
theorem eold_any {w : World} {g ge bl bp now : Nat} {K : List Era} (h : Ep w g ge bl bp now K) : Calls Tryz.prog 71 #[.pointer (some ⟨ge, 0, none⟩)] w fun e w' => e = .returned (.int .i64 (now : Int)) ∧ Gr w w' := by
  have HN := Lib.hid (enone_any h.eb)
  have HW := Lib.hid (enow_any h.eb)
  obtain ⟨_, _, _, c3, _⟩ := eb_cells h.eb
  have HP := Lib.hid h.pins
  clear h
  go_enter Tryz.func71, Tryz.ntmps71
  go_wp2_with (first
    | (go_at_call 118; go_must (refine HW.out.mono ?_); rintro e w' ⟨rfl, rfl⟩)
    | (go_at_call 69; go_must (refine HN.out.mono ?_); rintro e w' ⟨rfl, rfl⟩)
    | (at_range; refine wpList_range_own _ rfl _ 126 rfl 3 3 (int_keyed Tryz.underlying3) Tryz.underlying126 _ bp 0 _ rfl HP.out ?_; intro w0 hrg0 hg0 hs0
       have HRg := Lib.hid hrg0; have HG0 := Lib.hid hg0
       clear hs0 hrg0 hg0)
    | fail)
  go_frame
  go_loopw [3] (fun v wr => v = .int .i64 (now : Int) ∧ Gr w wr ∧ wr = w0) (fun _ _ => 0)
  case atStart => exact ⟨rfl, ⟨HG0.out.os, HG0.out.tape, HG0.out.output, HG0.out.size, fun j hj => HG0.out.block j hj (by simp)⟩, rfl⟩
  case round =>
    obtain ⟨rfl, hG, rfl⟩ := hrel
    go_wp2_with (first
      | (at_next; refine wpList_next_ranges_ii _ rfl _ rfl 3 3 .i64 .i64 (int_keyed Tryz.underlying3) Tryz.underlying3 Tryz.underlying3 bp w.heap.size 0 _ _ _ rfl HRg.out ?_ ?_)
      | fail)
    · intro _ _
      go_wp2
      go_ret
      exact ⟨rfl, hG⟩
    · intro x c w' cnt' _ _ hl
      simp [pinD, Maps.has] at hl
/-- the numbers of the epochs -/
def RetK (w : World) (K : List Era) : Ending → World → Prop := fun x w' => ∃ ad cap, x = .returned (.slice ad K.length cap) ∧ Row w' ad (K.map fun e => .int .i64 (e.k : Int)) ∧ (∀ x, ad = some x → w.heap.size ≤ x.block) ∧ Gr w w'
theorem sort_keys {K : List Era} (h : K.Pairwise fun a b => a.k < b.k) {ss : List Int} (hp : ss.Perm (K.map fun e => (e.k : Int))) : ss.mergeSort (fun x y => decide (x ≤ y)) = K.map fun e => (e.k : Int) := by
  rw [mergeSort_of_perm_i hp]
  refine List.mergeSort_of_pairwise ?_
  rw [List.pairwise_map]
  exact h.imp (fun h => by simp; omega)
set_option maxRecDepth 100000 in
theorem elive_any {w : World} {g ge bl bp now : Nat} {K : List Era} (h : Ep w g ge bl bp now K) (hK : K.length ≤ 1000) : Calls Tryz.prog 70 #[.pointer (some ⟨ge, 0, none⟩)] w (RetK w K) := by
  have HN := Lib.hid (enone_any h.eb)
  obtain ⟨_, _, c2, _, _⟩ := eb_cells h.eb
  have HS := Lib.hid (sortedY_any bl K.length (liveD K) Rp (w.alloc (.cells #[.map (some bl)] 125)) (ownsMap_gr h.live (Gr.alloc _ _)) w.heap.size (by simp) (by have := (Blk.new w 125 #[.map (some bl)]).cell (i := 0) rfl; exact this) (by rw [live_size]; omega))
  have HSK := Lib.hid (fun ss hp => sort_keys (K := K) (h.dist.imp fun x => x.1) (ss := ss) hp)
  have HLK := Lib.hid (live_keys K)
  clear h
  go_enter Tryz.func70, Tryz.ntmps70
  go_wp2_with (first
    | (go_at_call 69; go_must (refine HN.out.mono ?_); rintro e w' ⟨rfl, rfl⟩)
    | (go_at_call 117; go_must (refine (keysY_any (some bl) w).mono ?_); rintro e w' ⟨rfl, rfl⟩)
    | (go_at_call 116; go_must (refine HS.out.mono ?_); rintro e w3 ⟨v, ss, rfl, hp, ho, _, g3⟩
       have HP := Lib.hid hp; have HO := Lib.hid ho
       clear hp ho)
    | fail)
  go_ret
  have hp := HP.out
  rw [HLK.out] at hp
  have e1 := HSK.out ss hp
  have hl : ss.length = K.length := by have := hp.length_eq; simpa using this
  have ho := HO.out
  rw [e1, hl] at ho
  rcases ho.2 with ⟨rfl, h0⟩ | ⟨gb, cap, cur, rfl, hbs, hb, _, _, _, ht⟩
  · have : K = [] := List.eq_nil_of_length_eq_zero h0
    subst this
    exact ⟨none, 0, rfl, Row.nil _ _, (fun x h => (by cases h)), (Gr.alloc _ _).trans g3⟩
  · refine ⟨some ⟨gb, 0, none⟩, cap, rfl, fun i u hu => ⟨gb, 0, rfl, ?_⟩, (fun x h => by cases h; simp at hbs; show w.heap.size ≤ gb; omega), (Gr.alloc _ _).trans g3⟩
    rw [cell_of_row _ _ _ _ _ _ hb, Nat.zero_add]
    rw [List.map_map] at ht
    have hi : i < K.length := by
      have := (List.getElem?_eq_some_iff.1 hu).1
      simpa using this
    rw [← Array.getElem?_toList]
    have h9 : (cur.toList.take (K.length * 1))[i]? = cur.toList[i]? := by rw [List.getElem?_take, if_pos (by omega)]
    rw [← h9, ht]
    exact hu
end Go.Proofs.YtpaogoehgkoaeaaGreatDoor
