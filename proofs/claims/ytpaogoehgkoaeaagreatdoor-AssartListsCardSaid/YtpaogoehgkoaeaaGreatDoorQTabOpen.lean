/- Layer 14 (table): Open walked. -/
import Derived.Test.YtpaogoehgkoaeaaGreatDoorQTabKnown
namespace Go.Proofs.YtpaogoehgkoaeaaGreatDoor
set_option linter.unusedVariables false
set_option linter.unusedSimpArgs false
open Go.RowKit Tab
/-- a table in memory -/
def TabAt (w : World) (g : Nat) (C : List Ci) (f : List UInt8) : Prop :=
  ∃ adc cc adf cf, Blk w g 103 [.slice adc C.length cc, .slice adf f.length cf] ∧ C.length ≤ cc ∧ cc ≤ maxLen ∧ Row w adc (cv C) ∧ f.length ≤ cf ∧ cf ≤ maxLen ∧ Bytes w adf f
theorem TabAt.gr {w w' : World} {g : Nat} {C : List Ci} {f : List UInt8} (h : TabAt w g C f) (k : Gr w w') : TabAt w' g C f := by
  obtain ⟨adc, cc, adf, cf, h1, h2, h3, h4, h5, h6, h7⟩ := h
  exact ⟨adc, cc, adf, cf, h1.gr k, h2, h3, h4.gr k, h5, h6, h7.gr k⟩
/-- a table in memory, in blocks from B on -/
def TabFrom (B : Nat) (w : World) (g : Nat) (C : List Ci) (f : List UInt8) : Prop :=
  ∃ adc cc adf cf, (Blk w g 103 [.slice adc C.length cc, .slice adf f.length cf] ∧ C.length ≤ cc ∧ cc ≤ maxLen ∧ Row w adc (cv C) ∧ f.length ≤ cf ∧ cf ≤ maxLen ∧ Bytes w adf f) ∧ B ≤ g ∧ (∀ a, adc = some a → B ≤ a.block) ∧ ∀ a, adf = some a → B ≤ a.block
theorem TabFrom.at_ {B : Nat} {w : World} {g : Nat} {C : List Ci} {f : List UInt8} (h : TabFrom B w g C f) : TabAt w g C f := by
  obtain ⟨adc, cc, adf, cf, h1, _⟩ := h
  exact ⟨adc, cc, adf, cf, h1⟩
theorem TabFrom.gr {B : Nat} {w w' : World} {g : Nat} {C : List Ci} {f : List UInt8} (h : TabFrom B w g C f) (k : Gr w w') : TabFrom B w' g C f := by
  obtain ⟨adc, cc, adf, cf, ⟨h1, h2, h3, h4, h5, h6, h7⟩, h8⟩ := h
  exact ⟨adc, cc, adf, cf, ⟨h1.gr k, h2, h3, h4.gr k, h5, h6, h7.gr k⟩, h8⟩
theorem Row.far_ {w w' : World} {ad : Option Addr} {vs : List Value} {b B : Nat} (h : Row w ad vs) (k : w.grownBy w' (some b)) (hb : b < B) (ha : ∀ a, ad = some a → B ≤ a.block) : Row w' ad vs := fun i u hi => by
  obtain ⟨g, o, e, hc⟩ := h i u hi
  subst e
  have h1 := ha _ rfl
  have h2 := World.block_lt_of_cell? w _ hc
  refine ⟨g, o, rfl, ?_⟩
  have hne : some g ≠ some b := fun e => by cases e; simp only at h1; omega
  have hblk : w'.heap[g]? = w.heap[g]? := k.block g h2 hne
  unfold World.cell? at hc ⊢
  simp only at hc ⊢
  rw [hblk]; exact hc
theorem TabFrom.far {B : Nat} {w w' : World} {g : Nat} {C : List Ci} {f : List UInt8} {b : Nat} (h : TabFrom B w g C f) (k : w.grownBy w' (some b)) (hb : b < B) : TabFrom B w' g C f := by
  obtain ⟨adc, cc, adf, cf, ⟨h1, h2, h3, h4, h5, h6, h7⟩, h8, h9, h10⟩ := h
  refine ⟨adc, cc, adf, cf, ⟨(k.block g h1.lt (fun e => by cases e; omega)).trans h1, h2, h3, h4.far_ k hb h9, h5, h6, (h7.row.far_ k hb h10).bytes⟩, h8, h9, h10⟩
/-- a table, or none -/
def RetO (w : World) (o : Option (List Ci × List UInt8)) : Ending → World → Prop := fun x w' =>
  ∃ p, x = .returned (.tuple #[.pointer p, .int .i64 (if o.isSome then 0 else 2)]) ∧ Gr w w' ∧ (o = none → p = none) ∧ ∀ C f, o = some (C, f) → ∃ g, p = some ⟨g, 0, none⟩ ∧ TabFrom w.heap.size w' g C f
theorem RetO.no {w w' : World} {o : Option (List Ci × List UInt8)} (h : o = none) (k : Gr w w') : RetO w o (.returned (.tuple #[.pointer none, .int .i64 2])) w' :=
  ⟨none, by rw [h]; rfl, k, fun _ => rfl, fun C f hc => by rw [h] at hc; cases hc⟩
theorem cut_gen (b o cap off n : Nat) (l : List UInt8) (w : World) (hc : l.length ≤ cap) (hl : l.length ≤ 1000000000) (ho : off < 4294967296) (hn : n < 4294967296) (hb : Bytes w (some ⟨b, o, none⟩) l) :
    Calls Tryz.prog 46 #[.slice (some ⟨b, o, none⟩) l.length cap, .int .i64 (off : Int), .int .i64 (n : Int)] w fun e w' => ∃ ad m c, e = .returned (.tuple #[.slice ad m c, .bool (cutF l off n).isSome]) ∧ w = w' := by
  cases h : cutF l off n with
  | none => exact cut_none b o cap off n l w hc hl ho hn hb h
  | some s => exact (cut_some b o cap off n l s w hc hl hb h).mono fun e w' ⟨h1, h2⟩ => ⟨_, _, _, h1, h2⟩
theorem runsOf_snoc (b : List UInt8) (A : List Bk.Pr) (p : Bk.Pr) : runsOf b (A ++ [p]) = match runsOf b A, runF b p.2 with | some l, some c => some (l ++ [c]) | _, _ => none := by
  induction A with
  | nil =>
    simp only [List.nil_append, runsOf]
    cases runF b p.2 <;> rfl
  | cons a A ih =>
    rw [List.cons_append, runsOf, runsOf, ih]
    cases runF b a.2 <;> cases runsOf b A <;> cases runF b p.2 <;> rfl
theorem runsOf_bad {b : List UInt8} {A B : List Bk.Pr} (h : runsOf b A = none) : runsOf b (A ++ B) = none := by
  induction A with
  | nil => cases h
  | cons a A ih =>
    rw [runsOf] at h
    rw [List.cons_append, runsOf]
    cases ha : runF b a.2 with
    | none => rfl
    | some c =>
      cases hA : runsOf b A with
      | none => rw [ih hA]
      | some l => rw [ha, hA] at h; cases h
theorem cellsF_len : ∀ {l : List Bk.Pr} {r : List Ci}, cellsF l = some r → r.length = l.length
  | [], r, h => by cases h; rfl
  | p :: l, r, h => by
    rw [cellsF] at h
    cases hp : cellF p with
    | none => rw [hp] at h; cases h
    | some c =>
      cases hl : cellsF l with
      | none => rw [hp, hl] at h; cases h
      | some t =>
        rw [hp, hl] at h
        cases h
        simp [cellsF_len hl]
theorem runF_ne {b val : List UInt8} {r : List Ci} (h : runF b val = some r) : r ≠ [] ∧ r.length ≤ 10000 := by
  unfold runF at h
  split at h
  · cases h
  · split at h
    · cases h
    · split at h
      · cases h
      · split at h
        · cases h
        · rename_i s hs
          split at h
          · cases h
          · rename_i hh
            have e := cellsF_len h
            have h0 : (Bk.pairsF s).2 = 0 := by
              by_cases hz : (Bk.pairsF s).2 = 0
              · exact hz
              · exact absurd (.inl hz) hh
            have h1 : (Bk.pairsF s).1 ≠ [] := fun hz => hh (.inr hz)
            obtain ⟨_, _, _, hch, _⟩ := Bk.pairs_some (b := s) (l := (Bk.pairsF s).1) (by rw [← h0])
            refine ⟨fun hr => ?_, by rw [e]; exact (Bk.chkF_ok hch).2.1⟩
            rw [hr] at e
            exact h1 (List.eq_nil_of_length_eq_zero e.symm)
theorem runsOf_ne {b : List UInt8} : ∀ {A : List Bk.Pr} {L : List (List Ci)}, runsOf b A = some L → (∀ r ∈ L, r ≠ [] ∧ r.length ≤ 10000) ∧ L.length = A.length
  | [], L, h => by cases h; exact ⟨fun r hr => by simp at hr, rfl⟩
  | p :: A, L, h => by
    rw [runsOf] at h
    cases hp : runF b p.2 with
    | none => rw [hp] at h; cases h
    | some c =>
      cases hl : runsOf b A with
      | none => rw [hp, hl] at h; cases h
      | some t =>
        rw [hp, hl] at h
        cases h
        obtain ⟨h1, h2⟩ := runsOf_ne hl
        refine ⟨fun r hr => ?_, by simp [h2]⟩
        rcases List.mem_cons.1 hr with rfl | hr
        · exact runF_ne hp
        · exact h1 r hr
theorem Open_short (ad : Option Addr) (cap : Nat) (b : List UInt8) (w : World) (h : b.length < 24) : Calls Tryz.prog 10 #[.slice ad b.length cap] w (RetO w (openF b)) := by
  have HN := Lib.hid (show openF b = none by unfold openF; rw [if_pos h])
  have hlt : (b.length : Int) < 24 := by omega
  go_enter Tryz.func10, Tryz.ntmps10
  go_wp2
  go_ret2
  exact RetO.no HN.out (Gr.refl _)
set_option maxRecDepth 100000 in
set_option maxHeartbeats 4000000 in
theorem Open_cut (bb o cap : Nat) (b : List UInt8) (w : World) (h24 : 24 ≤ b.length) (hc : b.length ≤ cap) (hl : b.length ≤ 500000000) (hb : Bytes w (some ⟨bb, o, none⟩) b) (hn : filtOf b = none ∨ idxOf b = none) :
    Calls Tryz.prog 10 #[.slice (some ⟨bb, o, none⟩) b.length cap] w (RetO w (openF b)) := by
  have HN := Lib.hid (show openF b = none by
    unfold openF
    rw [if_neg (by omega)]
    rcases hn with h | h
    · rw [h]
    · rw [h]; cases filtOf b <;> rfl)
  obtain ⟨at_, hat⟩ : ∃ at_, at_ = b.length - 24 := ⟨_, rfl⟩
  have hatI : (b.length : Int) - 24 = (at_ : Int) := by omega
  have HNm := Lib.hid (fun (k : Nat) (X : Int) (hk : k ≤ 20) hX => tnumber_any bb o cap (at_ + k) b X w hX (by omega) hc (by omega) hb)
  have n0 := numF_lt b (at_ + 0)
  have n1 := numF_lt b (at_ + 4)
  have n2 := numF_lt b (at_ + 8)
  have n3 := numF_lt b (at_ + 12)
  have HC1 := Lib.hid (cut_gen bb o cap (numF b (at_ + 0)) (numF b (at_ + 4)) b w hc (by omega) n0 n1 hb)
  have HC2 := Lib.hid (cut_gen bb o cap (numF b (at_ + 8)) (numF b (at_ + 12)) b w hc (by omega) n2 n3 hb)
  have e1 : cutF b (numF b (at_ + 0)) (numF b (at_ + 4)) = filtOf b := by unfold filtOf; rw [hat]; rfl
  have e2 : cutF b (numF b (at_ + 8)) (numF b (at_ + 12)) = idxOf b := by unfold idxOf; rw [hat]
  rw [e1] at HC1
  rw [e2] at HC2
  have HN0 := Lib.hid (HNm.out 0 (at_ : Int) (by omega) (by omega))
  have HN1 := Lib.hid (HNm.out 4 ((at_ : Int) + 4) (by omega) (by omega))
  have HN2 := Lib.hid (HNm.out 8 ((at_ : Int) + 8) (by omega) (by omega))
  have HN3 := Lib.hid (HNm.out 12 ((at_ : Int) + 12) (by omega) (by omega))
  have hh : (filtOf b).isSome = false ∨ (idxOf b).isSome = false := by
    rcases hn with h | h
    · exact .inl (by rw [h]; rfl)
    · exact .inr (by rw [h]; rfl)
  generalize numF b (at_ + 0) = m0 at *
  generalize numF b (at_ + 4) = m1 at *
  generalize numF b (at_ + 8) = m2 at *
  generalize numF b (at_ + 12) = m3 at *
  have hat9 : at_ ≤ 500000000 := by omega
  generalize (filtOf b).isSome = s1 at *
  generalize (idxOf b).isSome = s2 at *
  clear HNm e1 e2 hb hn n0 n1 n2 n3 hat
  have T0 : RowKit.Hid True := trivial
  have T1 : RowKit.Hid True := trivial
  have T2 : RowKit.Hid True := trivial
  have T3 : RowKit.Hid True := trivial
  cases s1 with
  | false =>
    go_enter Tryz.func10, Tryz.ntmps10
    go_wp2_with (first
      | (go_at_call 47; clear T0; go_must (refine HN0.out.mono ?_); rintro e w' ⟨rfl, rfl⟩)
      | (go_at_call 47; clear T1; go_must (refine HN1.out.mono ?_); rintro e w' ⟨rfl, rfl⟩)
      | (go_at_call 46; clear T3; go_must (refine HC1.out.mono ?_); rintro e w' ⟨a1, k1, c1, rfl, rfl⟩)
      | (go_at_call 47; clear T2; go_must (refine HN2.out.mono ?_); rintro e w' ⟨rfl, rfl⟩)
      | (go_at_call 47; go_must (refine HN3.out.mono ?_); rintro e w' ⟨rfl, rfl⟩)
      | (go_at_call 46; go_must (refine HC2.out.mono ?_); rintro e w' ⟨a2, k2, c2, rfl, rfl⟩)
      | fail)
    go_ret2
    exact RetO.no HN.out (Gr.refl _)
  | true =>
    rcases hh with h | h
    · cases h
    · subst h
      go_enter Tryz.func10, Tryz.ntmps10
      go_wp2_with (first
        | (go_at_call 47; clear T0; go_must (refine HN0.out.mono ?_); rintro e w' ⟨rfl, rfl⟩)
        | (go_at_call 47; clear T1; go_must (refine HN1.out.mono ?_); rintro e w' ⟨rfl, rfl⟩)
        | (go_at_call 46; clear T3; go_must (refine HC1.out.mono ?_); rintro e w' ⟨a1, k1, c1, rfl, rfl⟩)
        | (go_at_call 47; clear T2; go_must (refine HN2.out.mono ?_); rintro e w' ⟨rfl, rfl⟩)
        | (go_at_call 47; go_must (refine HN3.out.mono ?_); rintro e w' ⟨rfl, rfl⟩)
        | (go_at_call 46; go_must (refine HC2.out.mono ?_); rintro e w' ⟨a2, k2, c2, rfl, rfl⟩)
        | fail)
      go_ret2
      exact RetO.no HN.out (Gr.refl _)
/-- slices that read as these rows of cells, all in blocks of Z -/
def SlsIn (Z : Nat → Prop) (L : List (List Ci)) (vs : List Value) (w : World) : Prop := vs.length = L.length ∧ ∀ i (h : i < L.length), ∃ ad cap, vs[i]? = some (.slice ad L[i].length cap) ∧ L[i].length ≤ cap ∧ Row w ad (cv L[i]) ∧ ∀ a, ad = some a → Z a.block
theorem SlsIn.sls {Z : Nat → Prop} {L : List (List Ci)} {vs : List Value} {w : World} (h : SlsIn Z L vs w) : SlsOf L vs w := ⟨h.1, fun i hi => by
  obtain ⟨ad, cap, e, hc, hr, _⟩ := h.2 i hi
  exact ⟨_, e, ad, cap, rfl, hc, hr⟩⟩
theorem SlsIn.nil (Z : Nat → Prop) (w : World) : SlsIn Z [] [] w := ⟨rfl, fun i hi => by simp at hi⟩
theorem SlsIn.kept {Z : Nat → Prop} {L : List (List Ci)} {vs : List Value} {w w' : World} (h : SlsIn Z L vs w) (k : ∀ j, Z j → w'.heap[j]? = w.heap[j]?) : SlsIn Z L vs w' := ⟨h.1, fun i hi => by
  obtain ⟨ad, cap, e, hc, hr, hz⟩ := h.2 i hi
  refine ⟨ad, cap, e, hc, fun i u hu => ?_, hz⟩
  obtain ⟨b, off, eb, hcell⟩ := hr i u hu
  refine ⟨b, off, eb, ?_⟩
  have := k b (hz _ eb)
  unfold World.cell? at hcell ⊢
  simp only at hcell ⊢
  rw [this]; exact hcell⟩
theorem SlsIn.snoc {Z Z' : Nat → Prop} {L : List (List Ci)} {vs : List Value} {w : World} {r : List Ci} {ad : Option Addr} {cap : Nat} (h : SlsIn Z L vs w) (hz : ∀ j, Z j → Z' j) (hc : r.length ≤ cap) (hr : Row w ad (cv r)) (ha : ∀ a, ad = some a → Z' a.block) :
    SlsIn Z' (L ++ [r]) (vs ++ [.slice ad r.length cap]) w := by
  refine ⟨by simp [h.1], fun i hi => ?_⟩
  by_cases hi2 : i < L.length
  · obtain ⟨ad2, cap2, e, h1, h2, h3⟩ := h.2 i hi2
    refine ⟨ad2, cap2, ?_, ?_, ?_, fun a ha => hz _ (h3 a ha)⟩
    · rw [List.getElem?_append_left (by rw [h.1]; exact hi2), List.getElem_append_left hi2]; exact e
    · rw [List.getElem_append_left hi2]; exact h1
    · rw [List.getElem_append_left hi2]; exact h2
  · have e : i = L.length := by simp at hi; omega
    subst e
    refine ⟨ad, cap, ?_, ?_, ?_, ha⟩
    · have e1 : (vs ++ [Value.slice ad r.length cap])[L.length]? = some (Value.slice ad r.length cap) := by rw [← h.1]; simp
      rw [e1]; simp
    · simpa using hc
    · simpa using hr
theorem flat_le {L : List (List Ci)} (h : ∀ r ∈ L, r.length ≤ 10000) : L.flatten.length ≤ 10000 * L.length := by
  induction L with
  | nil => simp
  | cons r L ih =>
    have h1 := ih (fun x hx => h x (List.mem_cons_of_mem _ hx))
    have h2 := h r (List.mem_cons_self ..)
    rw [List.flatten_cons, List.length_append, List.length_cons]; omega
/-- while a table is opened -/
structure OpI (w : World) (b : List UInt8) (l : List Bk.Pr) (f : List UInt8) (g : Nat) (adf : Option Addr) (cf i : Nat) (L : List (List Ci)) (adb : Option Addr) (cb : Nat) (wr : World) : Prop where
  eq : runsOf b (l.take i) = some L
  gr : Gr w wr
  hg : w.heap.size ≤ g
  all : ∃ adc cc vs Z, Blk wr g 103 [.slice adc L.flatten.length cc, .slice adf f.length cf] ∧ Owns wr w.heap.size 56 4 adc cc L.flatten.length (cv L.flatten) ∧ Owns wr w.heap.size 22 1 adb cb L.length vs ∧
    SlsIn Z L vs wr ∧ (∀ j, Z j → j < wr.heap.size) ∧ (∀ a, adc = some a → ¬ Z a.block) ∧ (∀ j, Z j → j ≠ g) ∧ ∀ j, Z j → ∀ a, adb = some a → a.block ≠ j
  fl : Owns wr 0 5 1 adf cf f.length (bv f)
set_option maxRecDepth 100000 in
set_option maxHeartbeats 8000000 in
theorem Open_rest (bb o cap : Nat) (b f x : List UInt8) (w : World) (h24 : 24 ≤ b.length) (hc : b.length ≤ cap) (hm : cap ≤ maxLen) (hl : b.length ≤ 500000000) (hb : Bytes w (some ⟨bb, o, none⟩) b) (hf : filtOf b = some f) (hx : idxOf b = some x) :
    Calls Tryz.prog 10 #[.slice (some ⟨bb, o, none⟩) b.length cap] w (RetO w (openF b)) := by
  have HOp := Lib.hid (show openF b = if (Bk.pairsF x).2 ≠ 0 then none else match runsOf b (Bk.pairsF x).1 with | none => none | some L => if chkT L.flatten 1 1 = 0 ∧ knownF L.flatten f = true ∧ layF L f = b then some (L.flatten, f) else none by
    unfold openF
    rw [if_neg (by omega), hf, hx]
    rfl)
  obtain ⟨at_, hat⟩ : ∃ at_, at_ = b.length - 24 := ⟨_, rfl⟩
  have hatI : (b.length : Int) - 24 = (at_ : Int) := by omega
  have HNm := Lib.hid (fun (k : Nat) (X : Int) (hk : k ≤ 20) hX => tnumber_any bb o cap (at_ + k) b X w hX (by omega) hc (by omega) hb)
  have e1 : cutF b (numF b (at_ + 0)) (numF b (at_ + 4)) = some f := by rw [← hf]; unfold filtOf; rw [hat]; rfl
  have e2 : cutF b (numF b (at_ + 8)) (numF b (at_ + 12)) = some x := by rw [← hx]; unfold idxOf; rw [hat]
  have HC1 := Lib.hid (cut_some bb o cap (numF b (at_ + 0)) (numF b (at_ + 4)) b f w hc (by omega) hb e1)
  have HC2 := Lib.hid (cut_some bb o cap (numF b (at_ + 8)) (numF b (at_ + 12)) b x w hc (by omega) hb e2)
  have HN0 := Lib.hid (HNm.out 0 (at_ : Int) (by omega) (by omega))
  have HN1 := Lib.hid (HNm.out 4 ((at_ : Int) + 4) (by omega) (by omega))
  have HN2 := Lib.hid (HNm.out 8 ((at_ : Int) + 8) (by omega) (by omega))
  have HN3 := Lib.hid (HNm.out 12 ((at_ : Int) + 12) (by omega) (by omega))
  obtain ⟨f1, f2, f3⟩ := cutF_some e1
  obtain ⟨x1, x2, x3⟩ := cutF_some e2
  have hfb : Bytes w (some ⟨bb, o + numF b (at_ + 0), none⟩) f := by rw [f1]; exact (hb.drop _).take _
  have hxb : Bytes w (some ⟨bb, o + numF b (at_ + 8), none⟩) x := by rw [x1]; exact (hb.drop _).take _
  generalize numF b (at_ + 0) = m0 at *
  generalize numF b (at_ + 4) = m1 at *
  generalize numF b (at_ + 8) = m2 at *
  generalize numF b (at_ + 12) = m3 at *
  have hfl9 : f.length ≤ 500000000 := by omega
  have hxl9 : x.length ≤ 500000000 := by omega
  have HPs := Lib.hid (Pairs_any (some ⟨bb, o + m2, none⟩) (cap - m2) x w (by omega) (by omega) (by omega) hxb)
  have HCl := Lib.hid (fun w' h => clone_some ⟨bb, o + m0, none⟩ (cap - m0) f w' (by omega) h)
  have HFb := Lib.hid hfb
  have HB := Lib.hid hb
  have hat9 : at_ ≤ 500000000 := by omega
  have hpe := Bk.pairs_err x
  have HPo := Lib.hid (fun l (h : Bk.pairsF x = (l, 0)) => Bk.pairs_some h)
  rcases hps : Bk.pairsF x with ⟨l, e6⟩
  rw [hps] at HPs HOp hpe HPo
  simp only at HPs HOp hpe
  clear HNm e1 e2 hb hf hx hat f1 f2 f3 x1 x2 x3 hfb hxb hps
  have T0 : RowKit.Hid True := trivial
  have T1 : RowKit.Hid True := trivial
  have T2 : RowKit.Hid True := trivial
  have T3 : RowKit.Hid True := trivial
  by_cases h6 : e6 = 0
  · subst h6
    have hll : l.length ≤ 10000 := by
      obtain ⟨_, _, _, hch, _⟩ := HPo.out l rfl
      exact (Bk.chkF_ok hch).2.1
    have hkl : ∀ i (h : i < l.length), l[i].2.length ≤ 2000 := fun i h => by
      obtain ⟨_, _, _, hch, _⟩ := HPo.out l rfl
      have := ((Bk.chkF_ok hch).1 i).2
      rw [getD_get _ h] at this
      exact this
    have HKl := Lib.hid hkl
    have HOp := Lib.hid (show openF b = _ from HOp.out.trans (if_neg (by decide)))
    clear hpe HPo hkl
    go_enter Tryz.func10, Tryz.ntmps10
    go_wp2_with (first
      | (go_at_call 47; clear T0; go_must (refine HN0.out.mono ?_); rintro e w' ⟨rfl, rfl⟩)
      | (go_at_call 47; clear T1; go_must (refine HN1.out.mono ?_); rintro e w' ⟨rfl, rfl⟩)
      | (go_at_call 46; clear T3; go_must (refine HC1.out.mono ?_); rintro e w' ⟨rfl, rfl⟩)
      | (go_at_call 47; clear T2; go_must (refine HN2.out.mono ?_); rintro e w' ⟨rfl, rfl⟩)
      | (go_at_call 47; go_must (refine HN3.out.mono ?_); rintro e w' ⟨rfl, rfl⟩)
      | (go_at_call 46; go_must (refine HC2.out.mono ?_); rintro e w' ⟨rfl, rfl⟩)
      | (go_at_call 48; go_must (refine HPs.out.mono ?_); rintro e w3 ⟨adl, cl, rfl, o3, g3⟩)
      | (go_at_call 49; go_must (refine (HCl.out _ (HFb.out.gr g3)).mono ?_); rintro e w4 ⟨adf, cf, rfl, o4, g4⟩)
      | fail)
    have hG4 := g3.trans g4
    have HI0 := Lib.hid (show OpI w4 b l f w4.heap.size adf cf 0 [] none 0 (w4.alloc (.cells #[.slice none 0 0, .slice adf f.length cf] 103)) from
      ⟨rfl, Gr.alloc _ _, Nat.le_refl _, ⟨none, 0, [], fun _ => False, Blk.new w4 103 #[.slice none 0 0, .slice adf f.length cf], Owns.empty _ _ _ _, Owns.empty _ _ _ _, SlsIn.nil _ _, fun _ h => h.elim, fun _ h => (by cases h), fun _ h => h.elim, fun _ h => h.elim⟩,
        (o4.gr (Gr.alloc _ _)).base (Nat.zero_le _)⟩)
    have HGw := Lib.hid hG4
    have HAf := Lib.hid (show ∀ a, adf = some a → w.heap.size ≤ a.block from fun a ha => Nat.le_trans g3.size (o4.lt a ha).1)
    have HRn := Lib.hid (fun (v : List UInt8) (h : v.length ≤ 2000) w' (h2 : Bytes w' (some ⟨bb, o, none⟩) b) => run_any bb o cap b v w' hc hm (by omega) (by omega) h2)
    have HLr := Lib.hid (show Row w4 adl (pv l) from o3.row.gr g4)
    have HGl := Lib.hid g3
    have HG4 := Lib.hid g4
    obtain ⟨g, hgd⟩ : ∃ g, g = w4.heap.size := ⟨_, rfl⟩
    rw [← hgd] at HI0 ⊢
    clear g3 g4 o3 o4 hG4 HPs HCl HN0 HN1 HN2 HN3 HC1 HC2 hgd
    generalize w4.alloc (.cells #[.slice none 0 0, .slice adf f.length cf] 103) = W5 at *
    go_loopw [12, 67] (fun vb vi wr => ∃ (i : Nat) (L : List (List Ci)) (adb : Option Addr) (cb : Nat), vi = .int .i64 (i : Int) ∧ vb = .slice adb L.length cb ∧ i ≤ l.length ∧ OpI w4 b l f g adf cf i L adb cb wr) (fun _ vi _ => l.length - (intOf vi).toNat)
    case atStart => exact ⟨0, [], none, 0, rfl, rfl, Nat.zero_le _, HI0.out⟩
    case round =>
      clear HI0
      obtain ⟨i, L, adb, cb, rfl, rfl, hi, hI⟩ := hrel
      by_cases hlt : i < l.length
      · obtain ⟨bl, ol, hadl, q0, q1⟩ := (HLr.out.gr hI.gr).pair i hlt
        subst hadl
        have hkl := HKl.out i hlt
        have HSn := Lib.hid (show runsOf b (l.take (i + 1)) = match some L, runF b l[i].2 with | some l, some c => some (l ++ [c]) | _, _ => none by
          rw [List.take_add_one, List.getElem?_eq_getElem hlt]
          have := runsOf_snoc b (l.take i) l[i]
          rw [hI.eq] at this
          exact this)
        have HAll := Lib.hid (show runsOf b (l.take (i + 1)) = none → runsOf b l = none from fun h => by
          have := runsOf_bad (B := l.drop (i + 1)) h
          rw [List.take_append_drop] at this
          exact this)
        have hLl := (runsOf_ne hI.eq)
        have HI := Lib.hid hI
        generalize l[i] = p at *
        obtain ⟨pk, pvl⟩ := p
        simp only at q0 q1 hkl HSn
        have hpb : Bytes (wr.alloc (.cells #[.string (str pk), .string (str pvl)] 105)) (some ⟨bb, o, none⟩) b := HB.out.gr (HGw.out.trans (hI.gr.trans (Gr.alloc _ _)))
        have HRr := Lib.hid (HRn.out pvl hkl _ hpb)
        unfold RetR at HRr
        clear hI hpb
        cases hrf : runF b pvl with
        | none =>
          have HN := Lib.hid (show openF b = none by rw [HOp.out, HAll.out (by rw [HSn.out, hrf])])
          rw [hrf] at HRr
          clear hrf HSn HAll
          as_aux_lemma =>
            go_wp2_with (first
              | (go_at_call 50; go_must (refine HRr.out.mono ?_); rintro e w5 ⟨ad5, n5, c5, rfl, g5, h5⟩)
              | fail)
            go_ret2
            exact RetO.no HN.out ((HGw.out.trans (HI.out.gr.trans (Gr.alloc _ _))).trans g5)
        | some r =>
          obtain ⟨adc, cc, vs, Z, hT, hCo, hBo, hS, hZ1, hZ2, hZ3, hZ4⟩ := HI.out.all
          have hSn2 : runsOf b (l.take (i + 1)) = some (L ++ [r]) := by rw [HSn.out, hrf]
          have hrl := (runF_ne hrf).2
          have hfl2 := flat_le (fun x hx => (hLl.1 x hx).2)
          have hLl2 := hLl.2
          rw [List.length_take] at hLl2
          have hL9 : L.length ≤ 10000 := by omega
          have hF9 : L.flatten.length ≤ 100000000 := by omega
          rw [hrf] at HRr
          have HSn2 := Lib.hid hSn2
          have HT := Lib.hid hT; have HCo := Lib.hid hCo; have HBo := Lib.hid hBo; have HS := Lib.hid hS
          have HZ := Lib.hid (And.intro hZ1 (And.intro hZ2 (And.intro hZ3 hZ4)))
          have hgs := HI.out.gr.size
          have m1 : L.length + 1 ≤ maxLen := by unfold maxLen; omega
          have m2 : (L.length + 1) * 24 ≤ 140737488355328 := by omega
          have m3 : L.flatten.length + r.length ≤ maxLen := by unfold maxLen; omega
          have m4 : (L.flatten.length + r.length) * 48 ≤ 140737488355328 := by omega
          obtain ⟨FL, hFL⟩ : ∃ n, n = L.flatten.length := ⟨_, rfl⟩
          rw [← hFL] at m3 m4 HT HCo hF9
          have HFL := Lib.hid hFL
          clear hrf HSn HAll hSn2 hT hCo hBo hS hZ1 hZ2 hZ3 hZ4 hLl hLl2 hfl2 hFL
          have T9 : RowKit.Hid True := trivial
          as_aux_lemma =>
            go_wp2_with (first
              | (go_at_call 50; go_must (refine HRr.out.mono ?_); rintro e w5 ⟨ad5, n5, c5, rfl, g5, h5⟩
                 obtain ⟨rfl, o5⟩ := h5 r rfl
                 have HO5 := Lib.hid o5
                 have G5 := Lib.hid ((Gr.alloc wr (.cells #[.string (str pk), .string (str pvl)] 105)).trans g5)
                 have G6 := Lib.hid (G5.out.trans (Gr.alloc w5 (.cells #[.slice ad5 r.length c5] 22)))
                 clear h5 o5 g5)
              | (at_builtin; clear T9; go_must (refine wp_append elemL rfl _ _ rfl rfl (HBo.out.gr G6.out) rfl (src_cellg _ (.slice ad5 r.length c5) rfl Tryz.underlying27 _ (by simp)) m1 m2 (Nat.le_trans hgs G6.out.size) ?_); intro ad6 c6 w6 o6 k6 f6
                 have T6 := (HT.out.gr G6.out).grown k6 (fun e => by
                   obtain ⟨y, hy, e2⟩ := Option.map_eq_some_iff.1 e.symm
                   exact (HT.out.gr G6.out).owns_ne (HBo.out.gr G6.out) (by decide) y hy e2)
                 have z6 := T6.cell (i := 0) rfl
                 have C6 := (HCo.out.gr G6.out).grown k6 (fun x hx e => by
                   obtain ⟨y, hy, e2⟩ := Option.map_eq_some_iff.1 e.symm
                   exact (HCo.out.gr G6.out).ne (HBo.out.gr G6.out) (by decide) x y hx hy e2.symm)
                 have R6 := (HO5.out.gr (Gr.alloc w5 (.cells #[.slice ad5 r.length c5] 22))).grown k6 (fun x hx e => by
                   obtain ⟨y, hy, e2⟩ := Option.map_eq_some_iff.1 e.symm
                   exact (HO5.out.gr (Gr.alloc w5 (.cells #[.slice ad5 r.length c5] 22))).ne (HBo.out.gr G6.out) (by decide) x y hx hy e2.symm)
                 have HO6 := Lib.hid o6; have HK6 := Lib.hid k6; have HF6 := Lib.hid f6
                 clear o6 k6 f6)
              | (at_builtin; go_must (refine wp_append elemC rfl _ _ rfl rfl C6 rfl (Src.own R6 (cv_one r) Tryz.underlying22) m3 m4 (Nat.le_trans hgs (Nat.le_trans G6.out.size HK6.out.size)) ?_); intro ad7 c7 w7 o7 k7 f7
                 have T7 := T6.grown k7 (fun e => by
                   obtain ⟨y, hy, e2⟩ := Option.map_eq_some_iff.1 e.symm
                   exact T6.owns_ne C6 (by decide) y hy e2)
                 have z7 := T7.frozen 0
                 have y7 := T7.cell (i := 0) rfl)
              | fail)
            go_roundw
            case rel =>
              obtain ⟨zl, zc, zg, zb⟩ := HZ.out
              have kg := grown_set w7 g 0 (.slice ad7 (FL + r.length) c7)
              have hsz1 : (wr.alloc (.cells #[.string (str pk), .string (str pvl)] 105)).heap.size = wr.heap.size + 1 := by simp
              have hs56 : w5.heap.size ≤ (w5.alloc (.cells #[.slice ad5 r.length c5] 22)).heap.size := (Gr.alloc _ _).size
              have hs6 := HK6.out.size
              have hs5 := G5.out.size
              have hs7 := k7.size
              have hgl := HT.out.lt
              have hrb : ∀ a, ad5 = some a → wr.heap.size < a.block ∧ a.block < w5.heap.size := fun a ha => by
                have := HO5.out.lt a ha
                rw [hsz1] at this
                omega
              have hadc : ∀ a, adc = some a → a.block < wr.heap.size := fun a ha => (HCo.out.lt a ha).2
              have hadb : ∀ a, adb = some a → a.block < wr.heap.size := fun a ha => (HBo.out.lt a ha).2
              have B7 := HO6.out.grown k7 (fun x hx e => by
                obtain ⟨y, hy, e2⟩ := Option.map_eq_some_iff.1 e.symm
                exact HO6.out.ne C6 (by decide) x y hx hy e2.symm)
              have F6 := (HI.out.fl.gr G6.out).grown HK6.out (fun x hx e => by
                obtain ⟨y, hy, e2⟩ := Option.map_eq_some_iff.1 e.symm
                exact (HI.out.fl.gr G6.out).ne (HBo.out.gr G6.out) (by decide) x y hx hy e2.symm)
              have F7 := F6.grown k7 (fun x hx e => by
                obtain ⟨y, hy, e2⟩ := Option.map_eq_some_iff.1 e.symm
                exact F6.ne C6 (by decide) x y hx hy e2.symm)
              have R7 := R6.grown k7 (fun x hx e => by
                obtain ⟨y, hy, e2⟩ := Option.map_eq_some_iff.1 e.symm
                have h1 := (hrb x hx).1
                have h2 := hadc y hy
                omega)
              have R8 := R7.grown kg (fun x hx e => T7.owns_ne R7 (by decide) x hx (Option.some.inj e))
              have hkeep : ∀ j, Z j → (w7.setCell ⟨g, 0, none⟩ (.slice ad7 (FL + r.length) c7)).heap[j]? = wr.heap[j]? := fun j hj => by
                have h1 := zl j hj
                have a1 := G6.out.block j h1
                have a2 := HK6.out.block j (Nat.lt_of_lt_of_le h1 G6.out.size) (fun e => by
                  obtain ⟨y, hy, e2⟩ := Option.map_eq_some_iff.1 e.symm
                  exact zb j hj y hy e2)
                have a3 := k7.block j (by omega) (fun e => by
                  obtain ⟨y, hy, e2⟩ := Option.map_eq_some_iff.1 e.symm
                  exact zc y hy (by rw [e2]; exact hj))
                have a4 := kg.block j (by omega) (fun e => zg j hj (Option.some.inj e))
                exact a4.trans (a3.trans (a2.trans a1))
              have hfle : FL + r.length = (L ++ [r]).flatten.length := by rw [HFL.out]; simp
              have hgr : Gr w4 (w7.setCell ⟨g, 0, none⟩ (.slice ad7 (FL + r.length) c7)) :=
                (((HI.out.gr.trans G6.out).grown HK6.out (fun k hk => by
                  obtain ⟨y, hy, e⟩ := Option.map_eq_some_iff.1 hk
                  exact e ▸ (HBo.out.lt y hy).1)).grown k7 (fun k hk => by
                  obtain ⟨y, hy, e⟩ := Option.map_eq_some_iff.1 hk
                  exact e ▸ (HCo.out.lt y hy).1)).of_far kg HI.out.hg
              refine ⟨i + 1, L ++ [r], ad6, c6, by go_num, by simp, hlt, ⟨HSn2.out, hgr, HI.out.hg, ⟨ad7, c7, vs ++ [.slice ad5 r.length c5], fun j => Z j ∨ ∃ a, ad5 = some a ∧ a.block = j, ?_, ?_, ?_, ?_, ?_, ?_, ?_, ?_⟩, ?_⟩⟩
              · rw [← hfle]; exact T7.set_ 0 _
              · rw [← hfle]
                have e : cv (L ++ [r]).flatten = cv L.flatten ++ cv r := by simp [cv]
                rw [e]
                exact o7.grown kg (fun x hx e => T7.owns_ne o7 (by decide) x hx (Option.some.inj e))
              · rw [List.length_append]
                exact B7.grown kg (fun x hx e => T7.owns_ne B7 (by decide) x hx (Option.some.inj e))
              · exact (HS.out.kept hkeep).snoc (fun j hj => .inl hj) HO5.out.2.1 R8.row (fun a ha => .inr ⟨a, ha, rfl⟩)
              · intro j hj
                have h8 := kg.size
                rcases hj with h | ⟨a, ha, rfl⟩
                · have := zl j h; omega
                · have := (hrb a ha).2; omega
              · intro a ha hz
                rcases f7 a ha with h1 | h1
                · rcases hz with h | ⟨a2, ha2, e⟩
                  · exact zc a h1 h
                  · have := (hrb a2 ha2).1; have := hadc a h1; omega
                · rcases hz with h | ⟨a2, ha2, e⟩
                  · have := zl _ h; omega
                  · have := (hrb a2 ha2).2; omega
              · intro j hj
                rcases hj with h | ⟨a, ha, rfl⟩
                · exact zg j h
                · have := (hrb a ha).1; omega
              · intro j hj a ha
                rcases HF6.out a ha with h1 | h1
                · rcases hj with h | ⟨a2, ha2, rfl⟩
                  · exact zb j h a h1
                  · have := (hrb a2 ha2).1; have := hadb a h1; omega
                · rcases hj with h | ⟨a2, ha2, rfl⟩
                  · have := zl _ h; omega
                  · have := (hrb a2 ha2).2; omega
              · exact F7.grown kg (fun x hx e => T7.owns_ne F7 (by decide) x hx (Option.some.inj e))
            case measure => simp [intOf]; omega
      · obtain rfl : i = l.length := by omega
        have heq := hI.eq
        rw [List.take_length] at heq
        have HO := Lib.hid (show openF b = if chkT L.flatten 1 1 = 0 ∧ knownF L.flatten f = true ∧ layF L f = b then some (L.flatten, f) else none by rw [HOp.out, heq])
        obtain ⟨hne0, hLl⟩ := runsOf_ne heq
        obtain ⟨adc, cc, vs, Z, hT, hCo, hBo, hS, hZ1, hZ2, hZ3, hZ4⟩ := hI.all
        have HCk := Lib.hid (tcheck_any adc cc L.flatten 1 1 wr (by have h1 := hCo.2.1; have h2 := hCo.2.2.1; unfold maxLen at h2; omega) hCo.row)
        have HKn := Lib.hid (fun (h5 : L.flatten.length ≤ 5000) (hsh : Short (keysF L.flatten)) w' (k : Gr wr w') => known_any adc cc L.flatten (some ⟨bb, o + m0, none⟩) (cap - m0) f w' (hCo.row.gr k) h5 hsh (HFb.out.gr (HGw.out.trans (hI.gr.trans k))))
        have HLy := Lib.hid (fun (h5 : L.flatten.length ≤ 5000) w' (k : Gr wr w') => lay_any adb cb L vs (some ⟨bb, o + m0, none⟩) (cap - m0) f w' (hBo.row.gr k) (hS.sls.gr k) (fun r hr => (hne0 r hr).1) (fun r hr => Nat.le_trans (mem_flat_len hr) h5) (Nat.le_trans (flatC_len (fun r hr => (hne0 r hr).1)) h5) h5 (fun r _ c _ => sortG_len _ _ _) (HFb.out.gr (HGw.out.trans (hI.gr.trans k))) (by
          have h1 := lay_len L f
          have h2 := flatC_len (L := L) (fun r hr => (hne0 r hr).1)
          omega))
        have z0 := hT.cell (i := 0) rfl
        have HTb := Lib.hid (fun w' (k : Gr wr w') => show TabFrom w.heap.size w' g L.flatten f from ⟨adc, cc, adf, cf, ⟨hT.gr k, hCo.2.1, hCo.2.2.1, hCo.row.gr k, hI.fl.2.1, hI.fl.2.2.1, (hI.fl.gr k).bytes⟩, Nat.le_trans HGw.out.size hI.hg, fun a ha => Nat.le_trans HGw.out.size (hCo.lt a ha).1, HAf.out⟩)
        have HT := Lib.hid hT
        have HGr := Lib.hid (HGw.out.trans hI.gr)
        obtain ⟨FL, hFL⟩ : ∃ n, n = L.flatten.length := ⟨_, rfl⟩
        have HFL := Lib.hid hFL
        rw [← hFL] at z0 HCk HKn HLy HT
        clear hI heq hne0 hLl hT hCo hBo hS hZ1 hZ2 hZ3 hZ4 hFL HLr HKl HRn
        by_cases hck : chkT L.flatten 1 1 = 0
        · rw [hck] at HCk
          obtain ⟨_, _, _, _, hl5, hbg, hne, hord⟩ := chkT_ok hck
          have hsh : Short (keysF L.flatten) := fun s hs => by
            obtain ⟨c, h1, h2⟩ := keys_mem hs
            have := keyC_le (ord_ok hord c h1)
            rw [h2] at this
            omega
          have HK2 := Lib.hid (HKn.out (by rw [HFL.out]; exact hl5) hsh)
          have HL2 := Lib.hid (HLy.out (by rw [HFL.out]; exact hl5))
          have HOc := Lib.hid hck
          clear HKn HLy hl5 hbg hne hord hsh hck
          cases hkn : knownF L.flatten f with
          | false =>
            have HN := Lib.hid (show openF b = none by rw [HO.out, if_neg (fun h => by have := h.2.1; rw [hkn] at this; cases this)])
            rw [hkn] at HK2
            clear hkn
            as_aux_lemma =>
              go_wp2_with (first
                | (go_at_call 41; go_must (refine HCk.out.mono ?_); rintro e w5 ⟨rfl, g5⟩
                   have z1 := g5.cell z0)
                | (go_at_call 51; go_must (refine (HK2.out _ g5).mono ?_); rintro e w6 ⟨rfl, g6⟩)
                | fail)
              go_ret2
              exact RetO.no HN.out (HGr.out.trans (g5.trans g6))
          | true =>
            rw [hkn] at HK2
            obtain ⟨Y, hY⟩ : ∃ Y, Y = layF L f := ⟨_, rfl⟩
            rw [← hY] at HL2
            have HEq := Lib.hid (fun ad2 c2 w' (k : Gr w w') (h2 : Bytes w' ad2 Y) => equal_any ad2 (some ⟨bb, o, none⟩) Y.length b.length c2 cap Y b w' rfl rfl h2 (HB.out.gr k))
            cases hyb : (Y == b) with
            | false =>
              have HN := Lib.hid (show openF b = none by
                rw [HO.out, if_neg (fun h => by
                  have := h.2.2
                  rw [← hY] at this
                  rw [this] at hyb
                  simp at hyb)])
              rw [hyb] at HEq
              clear hkn hY hyb
              as_aux_lemma =>
                go_wp2_with (first
                  | (go_at_call 41; go_must (refine HCk.out.mono ?_); rintro e w5 ⟨rfl, g5⟩
                     have z1 := g5.cell z0)
                  | (go_at_call 51; go_must (refine (HK2.out _ g5).mono ?_); rintro e w6 ⟨rfl, g6⟩)
                  | (go_at_call 44; go_must (refine (HL2.out _ (g5.trans g6)).mono ?_); rintro e w7 ⟨ad7, c7, rfl, o7, g7⟩)
                  | (go_at_call 52; go_must (refine (HEq.out _ _ _ (HGr.out.trans ((g5.trans g6).trans g7)) o7.bytes).mono ?_); rintro e w' ⟨rfl, rfl⟩)
                  | fail)
                go_ret2
                exact RetO.no HN.out (HGr.out.trans ((g5.trans g6).trans g7))
            | true =>
              have HN := Lib.hid (show openF b = some (L.flatten, f) by
                rw [HO.out, if_pos ⟨HOc.out, hkn, by rw [← hY]; exact eq_of_beq hyb⟩])
              rw [hyb] at HEq
              clear hkn hY hyb
              as_aux_lemma =>
                go_wp2_with (first
                  | (go_at_call 41; go_must (refine HCk.out.mono ?_); rintro e w5 ⟨rfl, g5⟩
                     have z1 := g5.cell z0)
                  | (go_at_call 51; go_must (refine (HK2.out _ g5).mono ?_); rintro e w6 ⟨rfl, g6⟩)
                  | (go_at_call 44; go_must (refine (HL2.out _ (g5.trans g6)).mono ?_); rintro e w7 ⟨ad7, c7, rfl, o7, g7⟩)
                  | (go_at_call 52; go_must (refine (HEq.out _ _ _ (HGr.out.trans ((g5.trans g6).trans g7)) o7.bytes).mono ?_); rintro e w' ⟨rfl, rfl⟩)
                  | fail)
                go_ret2
                refine ⟨some ⟨g, 0, none⟩, by rw [HN.out]; rfl, HGr.out.trans ((g5.trans g6).trans g7), fun h => (by rw [HN.out] at h; cases h), fun C f2 hc2 => ?_⟩
                rw [HN.out] at hc2
                cases hc2
                exact ⟨g, rfl, HTb.out _ ((g5.trans g6).trans g7)⟩
        · have HN := Lib.hid (show openF b = none by rw [HO.out, if_neg (fun h => hck h.1)])
          obtain ⟨c, hcc⟩ : ∃ c, c = chkT L.flatten 1 1 := ⟨_, rfl⟩
          rw [← hcc] at HCk hck
          have hne : ((c : Int) != 0) = true := by rw [bne_iff_ne]; omega
          clear hcc hck HKn HLy
          as_aux_lemma =>
            go_wp2_with (first
              | (go_at_call 41; go_must (refine HCk.out.mono ?_); rintro e w5 ⟨rfl, g5⟩)
              | fail)
            go_ret2
            exact RetO.no HN.out (HGr.out.trans g5)
  · have HN := Lib.hid (show openF b = none by rw [HOp.out, if_pos h6])
    have he2 : e6 = 2 := by
      rcases hpe with h | h
      · exact absurd h h6
      · exact (Prod.mk.inj h).2
    subst he2
    clear hpe HPo HOp h6
    go_enter Tryz.func10, Tryz.ntmps10
    go_wp2_with (first
      | (go_at_call 47; clear T0; go_must (refine HN0.out.mono ?_); rintro e w' ⟨rfl, rfl⟩)
      | (go_at_call 47; clear T1; go_must (refine HN1.out.mono ?_); rintro e w' ⟨rfl, rfl⟩)
      | (go_at_call 46; clear T3; go_must (refine HC1.out.mono ?_); rintro e w' ⟨rfl, rfl⟩)
      | (go_at_call 47; clear T2; go_must (refine HN2.out.mono ?_); rintro e w' ⟨rfl, rfl⟩)
      | (go_at_call 47; go_must (refine HN3.out.mono ?_); rintro e w' ⟨rfl, rfl⟩)
      | (go_at_call 46; go_must (refine HC2.out.mono ?_); rintro e w' ⟨rfl, rfl⟩)
      | (go_at_call 48; go_must (refine HPs.out.mono ?_); rintro e w3 ⟨adl, cl, rfl, o3, g3⟩)
      | fail)
    go_ret2
    exact RetO.no HN.out g3
theorem Open_any (ad : Option Addr) (cap : Nat) (b : List UInt8) (w : World) (hc : b.length ≤ cap) (hm : cap ≤ maxLen) (hl : b.length ≤ 500000000) (hb : Bytes w ad b) :
    Calls Tryz.prog 10 #[.slice ad b.length cap] w (RetO w (openF b)) := by
  by_cases h24 : b.length < 24
  · exact Open_short ad cap b w h24
  · obtain ⟨bb, o, rfl, _⟩ := hb 0 (by omega)
    cases hf : filtOf b with
    | none => exact Open_cut bb o cap b w (by omega) hc hl hb (.inl hf)
    | some f =>
      cases hx : idxOf b with
      | none => exact Open_cut bb o cap b w (by omega) hc hl hb (.inr hx)
      | some x => exact Open_rest bb o cap b f x w (by omega) hc hm hl hb hf hx
end Go.Proofs.YtpaogoehgkoaeaaGreatDoor
