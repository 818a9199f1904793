/- Layer 14 (table): the reference's runs walked. -/
import Derived.Test.YtlfbelocdpboeaaGreatDoorTabDoc2
import Derived.Test.YtlfbelocdpboeaaGreatDoorTabPartsM
namespace Go.Proofs.YtlfbelocdpboeaaGreatDoor
set_option linter.unusedVariables false
set_option linter.unusedSimpArgs false
open Go.RowKit Tab
structure DrI (w : World) (size : Int) (l : List Ci) (i n : Nat) (out : List (List Ci)) (ado : Option Addr) (co : Nat) (now : List Ci) (adn : Option Addr) (cn : Nat) (wr : World) : Prop where
  eq : runsF size l = out ++ runsG size now n (l.drop i)
  all : ∃ vs Z, Owns wr w.heap.size 22 1 ado co out.length vs ∧ Owns wr w.heap.size 48 4 adn cn now.length (cv now) ∧ SlsIn Z out vs wr ∧ (∀ j, Z j → j < wr.heap.size) ∧ (∀ a, adn = some a → ¬ Z a.block) ∧ ∀ j, Z j → ∀ a, ado = some a → a.block ≠ j
  gr : Gr w wr
  n : n ≤ i * 2000
  len : out.length ≤ i
  now : now.length ≤ i
set_option maxRecDepth 100000 in
set_option maxHeartbeats 4000000 in
theorem druns_any (ad : Option Addr) (cap : Nat) (l : List Ci) (size : Int) (w : World) (hr : Row w ad (cv l)) (hl : l.length ≤ 5000) (hsz : ∀ c ∈ l, sizeC c ≤ 2000) :
    Calls Tryz.prog 18 #[.slice ad l.length cap, .int .i64 size] w (RetL w (runsF size l)) := by
  have HR := Lib.hid hr
  have HSZ := Lib.hid hsz
  have HI0 := Lib.hid (show DrI w size l 0 0 [] none 0 [] none 0 w from ⟨by simp [runsF], ⟨[], fun _ => False, Owns.empty _ _ _ _, Owns.empty _ _ _ _, SlsIn.nil _ _, fun _ h => h.elim, fun _ h => (by cases h), fun _ h => h.elim⟩, Gr.refl _, Nat.zero_le _, Nat.zero_le _, Nat.zero_le _⟩)
  clear hr hsz
  go_enter Tryz.func18, Tryz.ntmps18
  go_wp2
  go_loopw [5, 6, 7, 8] (fun vo vn vc vi wr => ∃ (i n : Nat) (out : List (List Ci)) (ado : Option Addr) (co : Nat) (now : List Ci) (adn : Option Addr) (cn : Nat), vi = .int .i64 (i : Int) ∧ vc = .int .i64 (n : Int) ∧ vo = .slice ado out.length co ∧ vn = .slice adn now.length cn ∧ i ≤ l.length ∧ DrI w size l i n out ado co now adn cn wr) (fun _ _ _ vi _ => l.length - (intOf vi).toNat)
  case atStart => exact ⟨0, 0, [], none, 0, [], none, 0, rfl, rfl, rfl, rfl, Nat.zero_le _, HI0.out⟩
  case round =>
    clear HI0
    obtain ⟨i, n, out, ado, co, now, adn, cn, rfl, rfl, rfl, rfl, hi, hI⟩ := hrel
    by_cases hlt : i < l.length
    · obtain ⟨b, off, hade, e0, e1, e2, e3⟩ := (HR.out.gr hI.gr).ci i hlt
      subst hade
      have hsc := HSZ.out l[i] (List.getElem_mem hlt)
      have HEm := Lib.hid (runsG_emit (size := size) (n := n) (now := now) hlt)
      have HOn := Lib.hid (runsG_on (size := size) (n := n) (now := now) hlt)
      have hn9 := hI.n
      have hl9 := hI.len
      have hf9 := hI.now
      obtain ⟨vs, Z, hO, hN, hS, hZ1, hZ2, hZ3⟩ := hI.all
      have HEq := Lib.hid hI.eq
      have HGr := Lib.hid hI.gr
      have HO := Lib.hid hO
      have HN := Lib.hid hN
      have HS := Lib.hid hS
      have HZ := Lib.hid (And.intro hZ1 (And.intro hZ2 hZ3))
      have hgs := hI.gr.size
      have HPr := Lib.hid (fun w' => dpair_any l[i] w')
      have hsl : sizeC l[i] = (pairC l[i]).1.length + l[i].val.length := rfl
      obtain ⟨K, hK⟩ : ∃ K, K = (pairC l[i]).1 := ⟨_, rfl⟩
      rw [← hK] at HPr hsl
      obtain ⟨sc, hsc2⟩ : ∃ sc, sc = sizeC l[i] := ⟨_, rfl⟩
      rw [← hsc2] at hsc hsl HEm HOn
      have hsn : (K.length : Int) + (l[i].val.length : Int) = (sc : Int) := by omega
      have hKl : K.length ≤ 2000 := by omega
      have hVl : l[i].val.length ≤ 2000 := by omega
      have hnK : (n : Int) + (K.length : Int) + (l[i].val.length : Int) = (n : Int) + (sc : Int) := by omega
      clear hI hK hsc2 hO hN hS hZ1 hZ2 hZ3
      generalize hx : l[i] = c at HPr HEm HOn hsl hsn hVl e0 e1 e2 e3 hnK
      obtain ⟨ck, cs, cd, cval⟩ := c
      simp only at HPr hsl hsn hVl e0 e1 e2 e3 hnK
      have m1 : out.length + 1 ≤ maxLen := by unfold maxLen; omega
      have m2 : (out.length + 1) * 24 ≤ 140737488355328 := by omega
      have m3 : now.length + 1 ≤ maxLen := by unfold maxLen; omega
      have m4 : (now.length + 1) * 48 ≤ 140737488355328 := by omega
      clear hx HR HSZ hsl
      by_cases hge : size ≤ (n : Int) + (sc : Int)
      · have hem := HEm.out (.inl (by omega))
        clear HEm HOn
        have HEm2 := Lib.hid hem
        have T1 : RowKit.Hid True := trivial
        clear hem
        go_wp2_with (first
          | (go_at_call 42; refine (HPr.out _).mono ?_; rintro e w2 ⟨rfl, g2⟩
             have g3 := g2.trans (Gr.alloc w2 (.cells #[.string (str K), .string (str cval)] 72))
             replace e0 := g3.cell e0; replace e1 := g3.cell e1; replace e2 := g3.cell e2; replace e3 := g3.cell e3
             have bp := Blk.new w2 72 #[.string (str K), .string (str cval)]
             have HBp := Lib.hid bp
             have HG4 := Lib.hid (g3.trans (Gr.alloc _ (.cells #[.string (str ck), .int .i64 cs, .int .i64 cd, .string (str cval)] 48)))
             have HB4 := Lib.hid (bp.gr (Gr.alloc _ (.cells #[.string (str ck), .int .i64 cs, .int .i64 cd, .string (str cval)] 48)))
             clear bp g3 g2)
          | (at_builtin; clear T1; go_must (refine wp_append elemC rfl _ _ rfl rfl (HN.out.gr HG4.out) rfl (src_c4 _ ⟨ck, cs, cd, cval⟩ _ Tryz.underlying22 _ (by simp)) m3 m4 (Nat.le_trans hgs HG4.out.size) ?_); intro ad5 c5 w5 o5 k5 f5
             have b5 := HB4.out.grown k5 (fun e => by
               obtain ⟨y, hy, e2⟩ := Option.map_eq_some_iff.1 e.symm
               exact HB4.out.owns_ne (HN.out.gr HG4.out) (by decide) y hy e2)
             have z0 := b5.cell (i := 0) rfl
             have z1 := b5.cell (i := 1) rfl
             have O5 := (HO.out.gr HG4.out).grown k5 (fun x hx e => by
               obtain ⟨y, hy, e2⟩ := Option.map_eq_some_iff.1 e.symm
               exact (HO.out.gr HG4.out).ne (HN.out.gr HG4.out) (by decide) x y hx hy e2.symm)
             have HK5 := Lib.hid k5
             have HF5 := Lib.hid f5
             have HN5 := Lib.hid o5
             have HO5 := Lib.hid O5
             have HGr5 := Lib.hid (grown_own (HGr.out.trans HG4.out) k5 HN.out (Nat.le_refl _))
             have HS5 := Lib.hid (HS.out.kept (w' := w5) fun j hj => by
               have h1 := HZ.out.1 j hj
               have h2 := HG4.out.block j h1
               exact (k5.block j (Nat.lt_of_lt_of_le h1 HG4.out.size) (fun e => by
                 obtain ⟨y, hy, e2⟩ := Option.map_eq_some_iff.1 e.symm
                 exact HZ.out.2.1 y hy (by rw [e2]; exact hj))).trans h2)
             have HZ5 := Lib.hid (show (∀ j, Z j → j < w5.heap.size) ∧ (∀ a, ad5 = some a → ¬ Z a.block) from ⟨fun j hj => Nat.lt_of_lt_of_le (HZ.out.1 j hj) (Nat.le_trans HG4.out.size k5.size), fun a ha hz => by
               rcases f5 a ha with h | h
               · exact HZ.out.2.1 a h hz
               · have h1 := HZ.out.1 _ hz
                 have h2 := HG4.out.size
                 omega⟩)
             clear b5 O5 o5 k5 f5)
          | (at_builtin; go_must (refine wp_append elemL rfl _ _ rfl rfl (HO5.out.gr (Gr.alloc w5 (.cells #[.slice ad5 (now.length + 1) c5] 22))) rfl (src_cellg _ (.slice ad5 (now.length + 1) c5) rfl Tryz.underlying54 _ (by simp)) m1 m2 (HGr5.out.trans (Gr.alloc _ _)).size ?_); intro ad6 c6 w6 o6 k6 f6
             have HO6 := Lib.hid o6; have HK6 := Lib.hid k6; have HF6 := Lib.hid f6
             clear o6 k6 f6)
          | fail)
        go_roundw
        case rel =>
          have ga := Gr.alloc w5 (.cells #[.slice ad5 (now.length + 1) c5] 22)
          have hnl : (now ++ [(⟨ck, cs, cd, cval⟩ : Ci)]).length = now.length + 1 := by simp
          have N5 := HN5.out
          rw [show cv now ++ c4 (⟨ck, cs, cd, cval⟩ : Ci) = cv (now ++ [⟨ck, cs, cd, cval⟩]) by rw [cv_append]; rfl, ← hnl] at N5
          have N6 := (N5.gr ga).grown HK6.out (fun x hx e => by
            obtain ⟨y, hy, e2⟩ := Option.map_eq_some_iff.1 e.symm
            exact (N5.gr ga).ne (HO5.out.gr ga) (by decide) x y hx hy e2.symm)
          have S6 := HS5.out.kept (w' := w6) fun j hj => by
            have h1 := HZ5.out.1 j hj
            exact (HK6.out.block j (Nat.lt_of_lt_of_le h1 ga.size) (fun e => by
              obtain ⟨y, hy, e2⟩ := Option.map_eq_some_iff.1 e.symm
              exact HZ.out.2.2 j hj y hy e2)).trans (ga.block j h1)
          have S7 := S6.snoc (Z' := fun j => Z j ∨ ∃ a, ad5 = some a ∧ a.block = j) (fun j h => .inl h) N5.2.1 N6.row (fun a ha => .inr ⟨a, ha, rfl⟩)
          refine ⟨i + 1, 0, out ++ [now ++ [⟨ck, cs, cd, cval⟩]], ad6, c6, [], none, 0, by go_num, rfl, by simp, rfl, hlt, ⟨?_, ⟨_, _, by rw [List.length_append]; exact HO6.out, Owns.empty _ _ _ _, by rw [hnl] at S7; exact S7, ?_, fun _ h => (by cases h), ?_⟩, grown_own (HGr5.out.trans ga) HK6.out HO5.out (Nat.le_refl _), Nat.zero_le _, by simp; omega, Nat.zero_le _⟩⟩
          · rw [HEq.out, HEm2.out, List.append_assoc]; rfl
          · rintro j (h | ⟨a, ha, rfl⟩)
            · exact Nat.lt_of_lt_of_le (HZ5.out.1 j h) (Nat.le_trans ga.size HK6.out.size)
            · exact (N6.lt a ha).2
          · rintro j (h | ⟨a, ha, rfl⟩) y hy
            · rcases HF6.out y hy with h1 | h1
              · exact HZ.out.2.2 j h y h1
              · have h2 := HZ5.out.1 j h
                have h3 := ga.size
                omega
            · exact fun e => (HO6.out.ne N6 (by decide) y a hy ha e)
        case measure => simp [intOf]; omega
      · by_cases hlast : i + 1 = l.length
        · have hem := HEm.out (.inr hlast)
          have hb2 : ((i : Int) == (l.length : Int) - 1) = true := by simp; omega
          clear HEm HOn hlast
          have HEm2 := Lib.hid hem
          have T1 : RowKit.Hid True := trivial
          clear hem
          go_wp2_with (first
            | (go_at_call 42; refine (HPr.out _).mono ?_; rintro e w2 ⟨rfl, g2⟩
               have g3 := g2.trans (Gr.alloc w2 (.cells #[.string (str K), .string (str cval)] 72))
               replace e0 := g3.cell e0; replace e1 := g3.cell e1; replace e2 := g3.cell e2; replace e3 := g3.cell e3
               have bp := Blk.new w2 72 #[.string (str K), .string (str cval)]
               have HBp := Lib.hid bp
               have HG4 := Lib.hid (g3.trans (Gr.alloc _ (.cells #[.string (str ck), .int .i64 cs, .int .i64 cd, .string (str cval)] 48)))
               have HB4 := Lib.hid (bp.gr (Gr.alloc _ (.cells #[.string (str ck), .int .i64 cs, .int .i64 cd, .string (str cval)] 48)))
               clear bp g3 g2)
            | (at_builtin; clear T1; go_must (refine wp_append elemC rfl _ _ rfl rfl (HN.out.gr HG4.out) rfl (src_c4 _ ⟨ck, cs, cd, cval⟩ _ Tryz.underlying22 _ (by simp)) m3 m4 (Nat.le_trans hgs HG4.out.size) ?_); intro ad5 c5 w5 o5 k5 f5
               have b5 := HB4.out.grown k5 (fun e => by
                 obtain ⟨y, hy, e2⟩ := Option.map_eq_some_iff.1 e.symm
                 exact HB4.out.owns_ne (HN.out.gr HG4.out) (by decide) y hy e2)
               have z0 := b5.cell (i := 0) rfl
               have z1 := b5.cell (i := 1) rfl
               have O5 := (HO.out.gr HG4.out).grown k5 (fun x hx e => by
                 obtain ⟨y, hy, e2⟩ := Option.map_eq_some_iff.1 e.symm
                 exact (HO.out.gr HG4.out).ne (HN.out.gr HG4.out) (by decide) x y hx hy e2.symm)
               have HK5 := Lib.hid k5
               have HF5 := Lib.hid f5
               have HN5 := Lib.hid o5
               have HO5 := Lib.hid O5
               have HGr5 := Lib.hid (grown_own (HGr.out.trans HG4.out) k5 HN.out (Nat.le_refl _))
               have HS5 := Lib.hid (HS.out.kept (w' := w5) fun j hj => by
                 have h1 := HZ.out.1 j hj
                 have h2 := HG4.out.block j h1
                 exact (k5.block j (Nat.lt_of_lt_of_le h1 HG4.out.size) (fun e => by
                   obtain ⟨y, hy, e2⟩ := Option.map_eq_some_iff.1 e.symm
                   exact HZ.out.2.1 y hy (by rw [e2]; exact hj))).trans h2)
               have HZ5 := Lib.hid (show (∀ j, Z j → j < w5.heap.size) ∧ (∀ a, ad5 = some a → ¬ Z a.block) from ⟨fun j hj => Nat.lt_of_lt_of_le (HZ.out.1 j hj) (Nat.le_trans HG4.out.size k5.size), fun a ha hz => by
                 rcases f5 a ha with h | h
                 · exact HZ.out.2.1 a h hz
                 · have h1 := HZ.out.1 _ hz
                   have h2 := HG4.out.size
                   omega⟩)
               clear b5 O5 o5 k5 f5)
            | (at_builtin; go_must (refine wp_append elemL rfl _ _ rfl rfl (HO5.out.gr (Gr.alloc w5 (.cells #[.slice ad5 (now.length + 1) c5] 22))) rfl (src_cellg _ (.slice ad5 (now.length + 1) c5) rfl Tryz.underlying54 _ (by simp)) m1 m2 (HGr5.out.trans (Gr.alloc _ _)).size ?_); intro ad6 c6 w6 o6 k6 f6
               have HO6 := Lib.hid o6; have HK6 := Lib.hid k6; have HF6 := Lib.hid f6
               clear o6 k6 f6)
            | fail)
          go_roundw
          case rel =>
            have ga := Gr.alloc w5 (.cells #[.slice ad5 (now.length + 1) c5] 22)
            have hnl : (now ++ [(⟨ck, cs, cd, cval⟩ : Ci)]).length = now.length + 1 := by simp
            have N5 := HN5.out
            rw [show cv now ++ c4 (⟨ck, cs, cd, cval⟩ : Ci) = cv (now ++ [⟨ck, cs, cd, cval⟩]) by rw [cv_append]; rfl, ← hnl] at N5
            have N6 := (N5.gr ga).grown HK6.out (fun x hx e => by
              obtain ⟨y, hy, e2⟩ := Option.map_eq_some_iff.1 e.symm
              exact (N5.gr ga).ne (HO5.out.gr ga) (by decide) x y hx hy e2.symm)
            have S6 := HS5.out.kept (w' := w6) fun j hj => by
              have h1 := HZ5.out.1 j hj
              exact (HK6.out.block j (Nat.lt_of_lt_of_le h1 ga.size) (fun e => by
                obtain ⟨y, hy, e2⟩ := Option.map_eq_some_iff.1 e.symm
                exact HZ.out.2.2 j hj y hy e2)).trans (ga.block j h1)
            have S7 := S6.snoc (Z' := fun j => Z j ∨ ∃ a, ad5 = some a ∧ a.block = j) (fun j h => .inl h) N5.2.1 N6.row (fun a ha => .inr ⟨a, ha, rfl⟩)
            refine ⟨i + 1, 0, out ++ [now ++ [⟨ck, cs, cd, cval⟩]], ad6, c6, [], none, 0, by go_num, rfl, by simp, rfl, hlt, ⟨?_, ⟨_, _, by rw [List.length_append]; exact HO6.out, Owns.empty _ _ _ _, by rw [hnl] at S7; exact S7, ?_, fun _ h => (by cases h), ?_⟩, grown_own (HGr5.out.trans ga) HK6.out HO5.out (Nat.le_refl _), Nat.zero_le _, by simp; omega, Nat.zero_le _⟩⟩
            · rw [HEq.out, HEm2.out, List.append_assoc]; rfl
            · rintro j (h | ⟨a, ha, rfl⟩)
              · exact Nat.lt_of_lt_of_le (HZ5.out.1 j h) (Nat.le_trans ga.size HK6.out.size)
              · exact (N6.lt a ha).2
            · rintro j (h | ⟨a, ha, rfl⟩) y hy
              · rcases HF6.out y hy with h1 | h1
                · exact HZ.out.2.2 j h y h1
                · have h2 := HZ5.out.1 j h
                  have h3 := ga.size
                  omega
              · exact fun e => (HO6.out.ne N6 (by decide) y a hy ha e)
          case measure => simp [intOf]; omega
        · have HOn2 := Lib.hid (HOn.out (by omega) hlast)
          have hb2 : ((i : Int) == (l.length : Int) - 1) = false := by simp; omega
          have T1 : RowKit.Hid True := trivial
          clear HEm HOn hlast
          go_wp2_with (first
            | (go_at_call 42; refine (HPr.out _).mono ?_; rintro e w2 ⟨rfl, g2⟩
               have g3 := g2.trans (Gr.alloc w2 (.cells #[.string (str K), .string (str cval)] 72))
               replace e0 := g3.cell e0; replace e1 := g3.cell e1; replace e2 := g3.cell e2; replace e3 := g3.cell e3
               have bp := Blk.new w2 72 #[.string (str K), .string (str cval)]
               have HBp := Lib.hid bp
               have HG4 := Lib.hid (g3.trans (Gr.alloc _ (.cells #[.string (str ck), .int .i64 cs, .int .i64 cd, .string (str cval)] 48)))
               have HB4 := Lib.hid (bp.gr (Gr.alloc _ (.cells #[.string (str ck), .int .i64 cs, .int .i64 cd, .string (str cval)] 48)))
               clear bp g3 g2)
            | (at_builtin; clear T1; go_must (refine wp_append elemC rfl _ _ rfl rfl (HN.out.gr HG4.out) rfl (src_c4 _ ⟨ck, cs, cd, cval⟩ _ Tryz.underlying22 _ (by simp)) m3 m4 (Nat.le_trans hgs HG4.out.size) ?_); intro ad5 c5 w5 o5 k5 f5
               have b5 := HB4.out.grown k5 (fun e => by
                 obtain ⟨y, hy, e2⟩ := Option.map_eq_some_iff.1 e.symm
                 exact HB4.out.owns_ne (HN.out.gr HG4.out) (by decide) y hy e2)
               have z0 := b5.cell (i := 0) rfl
               have z1 := b5.cell (i := 1) rfl
               have O5 := (HO.out.gr HG4.out).grown k5 (fun x hx e => by
                 obtain ⟨y, hy, e2⟩ := Option.map_eq_some_iff.1 e.symm
                 exact (HO.out.gr HG4.out).ne (HN.out.gr HG4.out) (by decide) x y hx hy e2.symm)
               have HK5 := Lib.hid k5
               have HF5 := Lib.hid f5
               have HN5 := Lib.hid o5
               have HO5 := Lib.hid O5
               have HGr5 := Lib.hid (grown_own (HGr.out.trans HG4.out) k5 HN.out (Nat.le_refl _))
               have HS5 := Lib.hid (HS.out.kept (w' := w5) fun j hj => by
                 have h1 := HZ.out.1 j hj
                 have h2 := HG4.out.block j h1
                 exact (k5.block j (Nat.lt_of_lt_of_le h1 HG4.out.size) (fun e => by
                   obtain ⟨y, hy, e2⟩ := Option.map_eq_some_iff.1 e.symm
                   exact HZ.out.2.1 y hy (by rw [e2]; exact hj))).trans h2)
               have HZ5 := Lib.hid (show (∀ j, Z j → j < w5.heap.size) ∧ (∀ a, ad5 = some a → ¬ Z a.block) from ⟨fun j hj => Nat.lt_of_lt_of_le (HZ.out.1 j hj) (Nat.le_trans HG4.out.size k5.size), fun a ha hz => by
                 rcases f5 a ha with h | h
                 · exact HZ.out.2.1 a h hz
                 · have h1 := HZ.out.1 _ hz
                   have h2 := HG4.out.size
                   omega⟩)
               clear b5 O5 o5 k5 f5)
            | fail)
          go_roundw
          case rel =>
            have hnl : (now ++ [(⟨ck, cs, cd, cval⟩ : Ci)]).length = now.length + 1 := by simp
            have N5 := HN5.out
            rw [show cv now ++ c4 (⟨ck, cs, cd, cval⟩ : Ci) = cv (now ++ [⟨ck, cs, cd, cval⟩]) by rw [cv_append]; rfl, ← hnl] at N5
            refine ⟨i + 1, n + sc, out, ado, co, now ++ [⟨ck, cs, cd, cval⟩], ad5, c5, by go_num, by go_num, rfl, by rw [hnl], hlt, ⟨?_, ⟨vs, Z, HO5.out, N5, HS5.out, HZ5.out.1, HZ5.out.2, HZ.out.2.2⟩, HGr5.out, by omega, by omega, by rw [hnl]; omega⟩⟩
            rw [HEq.out, HOn2.out]
          case measure => simp [intOf]; omega
    · obtain rfl : i = l.length := by omega
      obtain ⟨vs, Z, hO, hN, hS, _⟩ := hI.all
      have HEq := Lib.hid (show runsF size l = out by rw [hI.eq, List.drop_length, runsG, List.append_nil])
      have HGr := Lib.hid hI.gr
      have HO := Lib.hid hO
      have HS := Lib.hid hS.sls
      clear hI hO hS hN
      go_wp2
      go_ret
      rw [HEq.out]
      exact ⟨ado, co, vs, rfl, HO.out, HS.out, HGr.out⟩
end Go.Proofs.YtlfbelocdpboeaaGreatDoor
