/- Layer 6 (bloom): what filters do together; BloomMerges answers true. -/
import Derived.Test.YtpkbifaeofcckaaBloomLaws
namespace Go.Proofs.Ytpkbifaeofcckaa
set_option linter.unusedVariables false
set_option linter.unusedSimpArgs false
open Go.RowKit Bloom
theorem or_row (on on' : Nat → Bool) (n : Nat) : orF (rowF on n) (rowF on' n) = rowF (fun p => on p || on' p) n := by
  apply List.ext_getElem
  · simp [orF, rowF_len]
  · intro q h1 h2
    rw [rowF_get]
    simp only [orF, List.getElem_zipWith, rowF_get]
    apply UInt8.toNat_inj.1
    rw [UInt8.toNat_or, byteF_nat, byteF_nat, byteF_nat]
    apply Nat.eq_of_testBit_eq
    intro r
    rw [Nat.testBit_or, byteN_bit, byteN_bit, byteN_bit]
    cases decide (r < 8) <;> simp
theorem k_nat {k : Nat} (h : k ≤ 30) : (UInt8.ofNat k).toNat = k := by rw [UInt8.toNat_ofNat']; omega
theorem may_row (on : Nat → Bool) (n k : Nat) (h : BitVec 32) (hn : 1 ≤ n) (h1 : 1 ≤ k) (h2 : k ≤ 30) : mayF (rowF on n ++ [UInt8.ofNat k]) h = (List.range k).all fun j => on (bitAt h (8 * n) j) := by
  rw [may_yes _ _ _ (by rw [rowF_len]; exact hn) (by rw [k_nat h2]; exact h1) (by rw [k_nat h2]; exact h2), k_nat h2, rowF_len]
  unfold allF
  rw [Bool.eq_iff_iff, List.all_eq_true, List.all_eq_true]
  have e : ∀ j, bitOf (rowF on n) (bitAt h (8 * n) j) = on (bitAt h (8 * n) j) := fun j => bit_row on n _ (Nat.mod_lt _ (by omega))
  exact ⟨fun hj j hm => (e j) ▸ hj j hm, fun hj j hm => (e j).symm ▸ hj j hm⟩
theorem merge_rows (on on' : Nat → Bool) (n k : Nat) (hn : 1 ≤ n) (h1 : 1 ≤ k) (h2 : k ≤ 30) : mergeF (rowF on n ++ [UInt8.ofNat k]) (rowF on' n ++ [UInt8.ofNat k]) = (rowF (fun p => on p || on' p) n ++ [UInt8.ofNat k], 0) := by
  rw [merge_good _ _ _ (by rw [rowF_len, rowF_len]) (by rw [rowF_len]; exact hn) (by rw [k_nat h2]; exact h1) (by rw [k_nat h2]; exact h2), or_row]
theorem kF_le (b : Nat) : 1 ≤ kF b ∧ kF b ≤ 30 := by unfold kF; omega
theorem nF_le {len b : Nat} (hl : len ≤ 100000) (hb : b ≤ 64) : 8 ≤ nF len b ∧ nF len b ≤ 800001 := by
  have : len * b ≤ 100000 * 64 := Nat.mul_le_mul hl hb
  unfold nF; omega
theorem build_good {keys : List (List UInt8)} {b : Nat} (h1 : 1 ≤ b) (h2 : b ≤ 64) (hk : keys.length ≤ 100000) : buildF keys (b : Int) = (filterF keys b, 0) := by
  unfold buildF
  rw [if_neg (by omega), if_neg (by omega)]; rfl
theorem Row.take_ {w : World} {ad : Option Addr} {vs : List Value} (h : Row w ad vs) (n : Nat) : Row w ad (vs.take n) := fun i u hi => by
  rw [List.getElem?_take] at hi
  split at hi
  · exact h i u hi
  · cases hi
theorem sv_take (keys : List (List UInt8)) (n : Nat) : (sv keys).take n = sv (keys.take n) := by simp [sv, List.map_take]
theorem Short.take_ {l : List (List UInt8)} (h : Short l) (n : Nat) : Short (l.take n) := fun s hs => h s (List.mem_of_mem_take hs)
theorem Build_len (ad : Option Addr) (len cap : Nat) (keys : List (List UInt8)) (b : Nat) (w : World) (hlen : keys.length = len) (hm : len ≤ 100000) (h1 : 1 ≤ b) (h2 : b ≤ 64) (hr : Row w ad (sv keys)) (hsh : Short keys) :
    Calls Try.prog 14 #[.slice ad len cap, .int .i64 (b : Int)] w (RetBE 5 w (filterF keys b) 0) := by
  subst hlen
  have h := Build_any ad cap keys b w (by omega) hr hsh (by omega) (by omega)
  rw [build_good h1 h2 hm] at h
  exact h
theorem filter_len (keys : List (List UInt8)) (b : Nat) : (filterF keys b).length = nF keys.length b + 1 := by unfold filterF; rw [List.length_append, rowF_len]; rfl
set_option maxRecDepth 100000 in
set_option maxHeartbeats 2000000 in
theorem BloomMerges_any (ad ad' : Option Addr) (cap cap' : Nat) (keys more : List (List UInt8)) (key : List UInt8) (w : World) (hl : keys.length ≤ cap) (hl' : more.length ≤ cap') (hc : cap ≤ maxLen) (hc' : cap' ≤ maxLen) (hr : Row w ad (sv keys)) (hr' : Row w ad' (sv more)) (hs : Short keys) (hs' : Short more) (hk : key.length ≤ 9223372036854775807) :
    Calls Try.prog 9 #[.slice ad keys.length cap, .slice ad' more.length cap', .string (str key)] w fun e w' => e = .returned (.bool true) ∧ Gr w w' := by
  unfold maxLen at hc hc'
  by_cases hbig : (2000 : Int) < keys.length ∨ (2000 : Int) < more.length
  · rcases hbig with hb | hb
    · go_enter Try.func9, Try.ntmps9
      go_wp2_with (go_at_call 10; refine (blooms_any _).mono ?_; rintro e w1 ⟨rfl, g1⟩)
      go_ret
      exact ⟨rfl, Gr.trans (by assumption) (by assumption)⟩
    · by_cases hb2 : (2000 : Int) < keys.length
      all_goals
        go_enter Try.func9, Try.ntmps9
        go_wp2_with (go_at_call 10; refine (blooms_any _).mono ?_; rintro e w1 ⟨rfl, g1⟩)
        go_ret
        exact ⟨rfl, Gr.trans (by assumption) (by assumption)⟩
  · obtain ⟨n, hn⟩ : ∃ n, n = min keys.length more.length := ⟨_, rfl⟩
    have hmin : min (keys.length : Int) (more.length : Int) = (n : Int) := by omega
    have hA : (keys.take n).length = n := by simp; omega
    have hB : (more.take n).length = n := by simp; omega
    have hn2 : n ≤ 2000 := by omega
    have hnk : n ≤ keys.length := by omega
    have hnm : n ≤ more.length := by omega
    have rA : Row w ad (sv (keys.take n)) := by rw [← sv_take]; exact hr.take_ n
    have rB : Row w ad' (sv (more.take n)) := by rw [← sv_take]; exact hr'.take_ n
    have hp := nF_le (len := n) (b := 9) (by omega) (by omega)
    have hkf := kF_le 9
    have LA := filter_len (keys.take n) 9
    have LB := filter_len (more.take n) 9
    rw [hA] at LA
    rw [hB] at LB
    have FA : filterF (keys.take n) 9 = rowF (onF (keys.take n) (8 * nF n 9) (kF 9)) (nF n 9) ++ [UInt8.ofNat (kF 9)] := by unfold filterF; rw [hA]
    have FB : filterF (more.take n) 9 = rowF (onF (more.take n) (8 * nF n 9) (kF 9)) (nF n 9) ++ [UInt8.ofNat (kF 9)] := by unfold filterF; rw [hB]
    have b1 : ∀ w1, Gr w w1 → Calls Try.prog 14 #[.slice ad n cap, .int .i64 9] w1 (RetBE 5 w1 (filterF (keys.take n) 9) 0) := fun w1 (g : Gr w w1) => Build_len ad n cap (keys.take n) 9 w1 hA (by omega) (by omega) (by omega) (rA.gr g) (hs.take_ n)
    have b2 : ∀ w1, Gr w w1 → Calls Try.prog 14 #[.slice ad' n cap', .int .i64 9] w1 (RetBE 5 w1 (filterF (more.take n) 9) 0) := fun w1 (g : Gr w w1) => Build_len ad' n cap' (more.take n) 9 w1 hB (by omega) (by omega) (by omega) (rB.gr g) (hs'.take_ n)
    have hm1 : ∃ C, mergeF (filterF (keys.take n) 9) (filterF (more.take n) 9) = (C, 0) ∧ mergeF (filterF (more.take n) 9) (filterF (keys.take n) 9) = (C, 0) ∧ mergeF (filterF (keys.take n) 9) (filterF (keys.take n) 9) = (filterF (keys.take n) 9, 0) ∧ C.length = nF n 9 + 1 ∧ (mayF (filterF (keys.take n) 9) (hashF key) = true → mayF C (hashF key) = true) ∧ (mayF (filterF (more.take n) 9) (hashF key) = true → mayF C (hashF key) = true) := by
      rw [FA, FB]
      refine ⟨_, merge_rows _ _ _ _ (by omega) hkf.1 hkf.2, ?_, ?_, by rw [List.length_append, rowF_len]; rfl, ?_, ?_⟩
      · rw [merge_rows _ _ _ _ (by omega) hkf.1 hkf.2]
        congr 3
        funext p
        exact Bool.or_comm _ _
      · rw [merge_rows _ _ _ _ (by omega) hkf.1 hkf.2]
        congr 3
        funext p
        exact Bool.or_self _
      all_goals
        rw [may_row _ _ _ _ (by omega) hkf.1 hkf.2, may_row _ _ _ _ (by omega) hkf.1 hkf.2, List.all_eq_true, List.all_eq_true]
        intro h j hj
        simp only [Bool.or_eq_true]
      · exact .inl (h j hj)
      · exact .inr (h j hj)
    obtain ⟨C, m1, m2, m3, LC, i1, i2⟩ := hm1
    clear FA FB hA hB rA rB hr hr' hs hs'
    generalize filterF (keys.take n) 9 = A at *
    generalize filterF (more.take n) 9 = B at *
    generalize nF n 9 = N at *
    have c1 := fun ad cap ad' cap' w h1 h2 h3 h4 hb hb' => Merge_any A B ad ad' cap cap' w h1 h2 h3 h4 (by omega) hb hb'
    have c2 := fun ad cap ad' cap' w h1 h2 h3 h4 hb hb' => Merge_any B A ad ad' cap cap' w h1 h2 h3 h4 (by omega) hb hb'
    have c3 := fun ad cap ad' cap' w h1 h2 h3 h4 hb hb' => Merge_any A A ad ad' cap cap' w h1 h2 h3 h4 (by omega) hb hb'
    rw [m1] at c1
    rw [m2] at c2
    rw [m3] at c3
    have d1 := fun ad cap w h1 h2 hb => May_any A key ad cap w h1 h2 (by omega) hb hk
    have d2 := fun ad cap w h1 h2 hb => May_any B key ad cap w h1 h2 (by omega) hb hk
    have d3 := fun ad cap w h1 h2 hb => May_any C key ad cap w h1 h2 (by omega) hb hk
    have B1 := Lib.hid b1; have B2 := Lib.hid b2; have C1 := Lib.hid c1; have C2 := Lib.hid c2; have C3 := Lib.hid c3
    generalize mayF A (hashF key) = ma at *
    generalize mayF B (hashF key) = mb at *
    generalize mayF C (hashF key) = mc at *
    have hk1 : ¬ (2000 : Int) < keys.length := by omega
    have hk2 : ¬ (2000 : Int) < more.length := by omega
    clear b1 b2 c1 c2 c3 m1 m2 m3 hbig hn LA LB LC
    have hcase : (ma = false ∧ mb = false) ∨ mc = true := by
      cases ma with
      | true => exact .inr (i1 rfl)
      | false =>
        cases mb with
        | true => exact .inr (i2 rfl)
        | false => exact .inl ⟨rfl, rfl⟩
    clear i1 i2
    dsimp only at C1 C2 C3
    have D1 := Lib.hid d1; have D2 := Lib.hid d2; have D3 := Lib.hid d3
    clear d1 d2 d3
    cases ma with
    | true =>
      obtain rfl : mc = true := by rcases hcase with ⟨h, _⟩ | h; cases h; exact h
      clear hcase
      go_enter Try.func9, Try.ntmps9
      go_wp2_with (first
        | (go_at_call 10; refine (blooms_any _).mono ?_; rintro e w1 ⟨rfl, g1⟩)
        | (go_at_call 14; (with_reducible refine (B1.out _ g1).mono ?_); rintro e w2 ⟨ad1, cap1, rfl, o1, g2⟩; have G2 := g1.trans g2; clear B1)
        | (go_at_call 14; (with_reducible refine (B2.out _ G2).mono ?_); rintro e w3 ⟨ad2, cap2, rfl, o2, g3⟩; have p1 := o1.gr g3)
        | (go_at_call 16; (with_reducible refine (C1.out _ _ _ _ _ (owns_le p1).1 (owns_le p1).2 (owns_le o2).1 (owns_le o2).2 p1.bytes o2.bytes).mono ?_); rintro e w4 ⟨ad3, cap3, rfl, o3, g4⟩; clear C1; have q1 := p1.gr g4; have q2 := o2.gr g4)
        | (go_at_call 16; (with_reducible refine (C2.out _ _ _ _ _ (owns_le q2).1 (owns_le q2).2 (owns_le q1).1 (owns_le q1).2 q2.bytes q1.bytes).mono ?_); rintro e w5 ⟨ad4, cap4, rfl, o4, g5⟩; clear C2; have u1 := q1.gr g5; have u2 := q2.gr g5)
        | (go_at_call 16; (with_reducible refine (C3.out _ _ _ _ _ (owns_le u1).1 (owns_le u1).2 (owns_le u1).1 (owns_le u1).2 u1.bytes u1.bytes).mono ?_); rintro e w6 ⟨ad5, cap5, rfl, o5, g6⟩; have v1 := u1.gr g6; have v2 := u2.gr g6; have v3 := (o3.gr g5).gr g6; have v4 := o4.gr g6; have t1 := run_string (P := Try.prog) Try.underlying30 Try.underlying5 Try.underlying9 (cap := cap1) rfl v1.bytes; have t3 := run_string (P := Try.prog) Try.underlying30 Try.underlying5 Try.underlying9 (cap := cap3) rfl v3.bytes; have t4 := run_string (P := Try.prog) Try.underlying30 Try.underlying5 Try.underlying9 (cap := cap4) rfl v4.bytes; have t5 := run_string (P := Try.prog) Try.underlying30 Try.underlying5 Try.underlying9 (cap := cap5) rfl o5.bytes; have G6 := (((G2.trans g3).trans g4).trans g5).trans g6)
        | (go_at_call 17; (with_reducible refine (D1.out _ _ _ (owns_le v1).1 (owns_le v1).2 v1.bytes).mono ?_); rintro e w7 ⟨rfl, g7⟩; clear D1)
        | (go_at_call 17; (with_reducible refine (D3.out _ _ _ (owns_le (v3.gr g7)).1 (owns_le (v3.gr g7)).2 (v3.gr g7).bytes).mono ?_); rintro e w9 ⟨rfl, g9⟩))
      go_ret
      exact ⟨rfl, (G6.trans g7).trans g9⟩
    | false =>
      cases mb with
      | true =>
        obtain rfl : mc = true := by rcases hcase with ⟨_, h⟩ | h; cases h; exact h
        clear hcase
        go_enter Try.func9, Try.ntmps9
        go_wp2_with (first
          | (go_at_call 10; refine (blooms_any _).mono ?_; rintro e w1 ⟨rfl, g1⟩)
          | (go_at_call 14; (with_reducible refine (B1.out _ g1).mono ?_); rintro e w2 ⟨ad1, cap1, rfl, o1, g2⟩; have G2 := g1.trans g2; clear B1)
          | (go_at_call 14; (with_reducible refine (B2.out _ G2).mono ?_); rintro e w3 ⟨ad2, cap2, rfl, o2, g3⟩; have p1 := o1.gr g3)
          | (go_at_call 16; (with_reducible refine (C1.out _ _ _ _ _ (owns_le p1).1 (owns_le p1).2 (owns_le o2).1 (owns_le o2).2 p1.bytes o2.bytes).mono ?_); rintro e w4 ⟨ad3, cap3, rfl, o3, g4⟩; clear C1; have q1 := p1.gr g4; have q2 := o2.gr g4)
          | (go_at_call 16; (with_reducible refine (C2.out _ _ _ _ _ (owns_le q2).1 (owns_le q2).2 (owns_le q1).1 (owns_le q1).2 q2.bytes q1.bytes).mono ?_); rintro e w5 ⟨ad4, cap4, rfl, o4, g5⟩; clear C2; have u1 := q1.gr g5; have u2 := q2.gr g5)
          | (go_at_call 16; (with_reducible refine (C3.out _ _ _ _ _ (owns_le u1).1 (owns_le u1).2 (owns_le u1).1 (owns_le u1).2 u1.bytes u1.bytes).mono ?_); rintro e w6 ⟨ad5, cap5, rfl, o5, g6⟩; have v1 := u1.gr g6; have v2 := u2.gr g6; have v3 := (o3.gr g5).gr g6; have v4 := o4.gr g6; have t1 := run_string (P := Try.prog) Try.underlying30 Try.underlying5 Try.underlying9 (cap := cap1) rfl v1.bytes; have t3 := run_string (P := Try.prog) Try.underlying30 Try.underlying5 Try.underlying9 (cap := cap3) rfl v3.bytes; have t4 := run_string (P := Try.prog) Try.underlying30 Try.underlying5 Try.underlying9 (cap := cap4) rfl v4.bytes; have t5 := run_string (P := Try.prog) Try.underlying30 Try.underlying5 Try.underlying9 (cap := cap5) rfl o5.bytes; have G6 := (((G2.trans g3).trans g4).trans g5).trans g6)
          | (go_at_call 17; (with_reducible refine (D1.out _ _ _ (owns_le v1).1 (owns_le v1).2 v1.bytes).mono ?_); rintro e w7 ⟨rfl, g7⟩; clear D1)
          | (go_at_call 17; (with_reducible refine (D2.out _ _ _ (owns_le (v2.gr g7)).1 (owns_le (v2.gr g7)).2 (v2.gr g7).bytes).mono ?_); rintro e w8 ⟨rfl, g8⟩; clear D2)
          | (go_at_call 17; (with_reducible refine (D3.out _ _ _ (owns_le ((v3.gr g7).gr g8)).1 (owns_le ((v3.gr g7).gr g8)).2 ((v3.gr g7).gr g8).bytes).mono ?_); rintro e w9 ⟨rfl, g9⟩))
        go_ret
        exact ⟨rfl, ((G6.trans g7).trans g8).trans g9⟩
      | false =>
        clear hcase
        go_enter Try.func9, Try.ntmps9
        go_wp2_with (first
          | (go_at_call 10; refine (blooms_any _).mono ?_; rintro e w1 ⟨rfl, g1⟩)
          | (go_at_call 14; (with_reducible refine (B1.out _ g1).mono ?_); rintro e w2 ⟨ad1, cap1, rfl, o1, g2⟩; have G2 := g1.trans g2; clear B1)
          | (go_at_call 14; (with_reducible refine (B2.out _ G2).mono ?_); rintro e w3 ⟨ad2, cap2, rfl, o2, g3⟩; have p1 := o1.gr g3)
          | (go_at_call 16; (with_reducible refine (C1.out _ _ _ _ _ (owns_le p1).1 (owns_le p1).2 (owns_le o2).1 (owns_le o2).2 p1.bytes o2.bytes).mono ?_); rintro e w4 ⟨ad3, cap3, rfl, o3, g4⟩; clear C1; have q1 := p1.gr g4; have q2 := o2.gr g4)
          | (go_at_call 16; (with_reducible refine (C2.out _ _ _ _ _ (owns_le q2).1 (owns_le q2).2 (owns_le q1).1 (owns_le q1).2 q2.bytes q1.bytes).mono ?_); rintro e w5 ⟨ad4, cap4, rfl, o4, g5⟩; clear C2; have u1 := q1.gr g5; have u2 := q2.gr g5)
          | (go_at_call 16; (with_reducible refine (C3.out _ _ _ _ _ (owns_le u1).1 (owns_le u1).2 (owns_le u1).1 (owns_le u1).2 u1.bytes u1.bytes).mono ?_); rintro e w6 ⟨ad5, cap5, rfl, o5, g6⟩; have v1 := u1.gr g6; have v2 := u2.gr g6; have v3 := (o3.gr g5).gr g6; have v4 := o4.gr g6; have t1 := run_string (P := Try.prog) Try.underlying30 Try.underlying5 Try.underlying9 (cap := cap1) rfl v1.bytes; have t3 := run_string (P := Try.prog) Try.underlying30 Try.underlying5 Try.underlying9 (cap := cap3) rfl v3.bytes; have t4 := run_string (P := Try.prog) Try.underlying30 Try.underlying5 Try.underlying9 (cap := cap4) rfl v4.bytes; have t5 := run_string (P := Try.prog) Try.underlying30 Try.underlying5 Try.underlying9 (cap := cap5) rfl o5.bytes; have G6 := (((G2.trans g3).trans g4).trans g5).trans g6)
          | (go_at_call 17; (with_reducible refine (D1.out _ _ _ (owns_le v1).1 (owns_le v1).2 v1.bytes).mono ?_); rintro e w7 ⟨rfl, g7⟩; clear D1)
          | (go_at_call 17; (with_reducible refine (D2.out _ _ _ (owns_le (v2.gr g7)).1 (owns_le (v2.gr g7)).2 (v2.gr g7).bytes).mono ?_); rintro e w8 ⟨rfl, g8⟩; clear D2))
        go_ret
        exact ⟨rfl, (G6.trans g7).trans g8⟩
end Go.Proofs.Ytpkbifaeofcckaa
