/- Layer 14 (table): Build walked. -/
import Derived.Test.YtpaogoehgkoaeaaGreatDoorQTabCheck
import Derived.Test.YtpaogoehgkoaeaaGreatDoorQBunB2
import Derived.Test.YtpaogoehgkoaeaaGreatDoorQBunB1
import Derived.Test.YtpaogoehgkoaeaaGreatDoorQBunB3
namespace Go.Proofs.YtpaogoehgkoaeaaGreatDoor
set_option linter.unusedVariables false
set_option linter.unusedSimpArgs false
open Go.RowKit Tab
theorem tcheck_empty (ad : Option Addr) (cap : Nat) (size bits : Int) (w : World) (h1 : 1 ≤ size) (h2 : size ≤ 4096) (h3 : 1 ≤ bits) (h4 : bits ≤ 64) :
    Calls Tryz.prog 41 #[.slice ad 0 cap, .int .i64 size, .int .i64 bits] w fun e w' => e = .returned (.int .i64 2) ∧ Gr w w' := by
  have HC := Lib.hid (tcontains_big ad cap [] w (by decide) (Row.nil _ _))
  go_enter Tryz.func41, Tryz.ntmps41
  go_wp2_with (go_at_call 88; refine HC.out.mono ?_; rintro e w1 ⟨rfl, g1⟩)
  go_ret
  exact ⟨rfl, g1⟩
theorem tcheck_any (ad : Option Addr) (cap : Nat) (l : List Ci) (size bits : Int) (w : World) (hl : l.length ≤ 9223372036854775807) (hr : Row w ad (cv l)) :
    Calls Tryz.prog 41 #[.slice ad l.length cap, .int .i64 size, .int .i64 bits] w fun e w' => e = .returned (.int .i64 (chkT l size bits : Nat)) ∧ Gr w w' := by
  unfold chkT
  by_cases h1 : size < 1 ∨ 4096 < size ∨ bits < 1 ∨ 64 < bits
  · rw [if_pos h1]
    exact tcheck_arg ad cap l size bits w h1
  · rw [if_neg h1]
    by_cases h2 : 5000 < l.length ∨ l.any bigC = true
    · rw [if_pos h2]
      exact tcheck_big ad cap l size bits w (by omega) (by omega) (by omega) (by omega) hl hr h2
    · rw [if_neg h2]
      by_cases h3 : l = []
      · subst h3
        exact tcheck_empty ad cap size bits w (by omega) (by omega) (by omega) (by omega)
      · have hb : l.any bigC = false := by
          cases hc : l.any bigC with
          | false => rfl
          | true => exact absurd (.inr hc) h2
        have h0 : 1 ≤ l.length := by cases l with | nil => exact absurd rfl h3 | cons => simp
        refine (tcheck_rest ad cap l size bits w (by omega) (by omega) (by omega) (by omega) hr (by omega) h0 hb).mono fun e w' ⟨he, hg⟩ => ⟨?_, hg⟩
        rw [he]
        by_cases ho : ordF l = true
        · rw [if_pos ho, if_pos ⟨h3, ho⟩]; rfl
        · rw [if_neg ho, if_neg (fun h => ho h.2)]; rfl
/- what is right about cells -/
theorem chkT_ok {l : List Ci} {size bits : Int} (h : chkT l size bits = 0) : 1 ≤ size ∧ size ≤ 4096 ∧ 1 ≤ bits ∧ bits ≤ 64 ∧ l.length ≤ 5000 ∧ l.any bigC = false ∧ l ≠ [] ∧ ordF l = true := by
  unfold chkT at h
  split at h
  · cases h
  · split at h
    · cases h
    · split at h
      · rename_i h1 h2 h3
        refine ⟨by omega, by omega, by omega, by omega, by omega, ?_, h3.1, h3.2⟩
        cases hc : l.any bigC with
        | false => rfl
        | true => exact absurd (.inr hc) h2
      · cases h
theorem big_le {l : List Ci} (h : l.any bigC = false) : ∀ c ∈ l, c.val.length ≤ 1000 := by
  intro c hc
  have h1 := List.any_eq_false.1 h c hc
  unfold bigC at h1
  simpa using h1
theorem sizeC_le {c : Ci} (h : c.val.length ≤ 1000) : sizeC c ≤ 2000 := by
  have := sortG_len c.key c.seq c.kind
  unfold sizeC pairC
  simp only
  omega
theorem runsG_flat (size : Int) : ∀ (l now : List Ci) (n : Nat), l ≠ [] → (runsG size now n l).flatten = now ++ l
  | [], _, _, h => absurd rfl h
  | c :: r, now, n, _ => by
    unfold runsG
    split
    · rename_i h
      by_cases hr : r = []
      · subst hr; simp [runsG]
      · rw [List.flatten_cons, runsG_flat size r [] 0 hr]; simp
    · rename_i h
      rw [runsG_flat size r _ _ (fun e => h (.inr e))]; simp
theorem runs_flat (size : Int) (l : List Ci) : (runsF size l).flatten = l := by
  unfold runsF
  by_cases h : l = []
  · subst h; rfl
  · rw [runsG_flat size l [] 0 h]; rfl
theorem runsG_ne (size : Int) : ∀ (l now : List Ci) (n : Nat), ∀ r ∈ runsG size now n l, r ≠ []
  | [], _, _, r, h => by simp [runsG] at h
  | c :: t, now, n, r, h => by
    unfold runsG at h
    split at h
    · rcases List.mem_cons.1 h with rfl | h
      · simp
      · exact runsG_ne size t _ _ r h
    · exact runsG_ne size t _ _ r h
theorem flatC_len {L : List (List Ci)} (h : ∀ r ∈ L, r ≠ []) : L.length ≤ L.flatten.length := by
  induction L with
  | nil => simp
  | cons r L ih =>
    have h1 := ih (fun x hx => h x (List.mem_cons_of_mem _ hx))
    have h2 : 1 ≤ r.length := by
      cases hr : r with
      | nil => exact absurd hr (h r (List.mem_cons_self ..))
      | cons => simp
    rw [List.flatten_cons, List.length_append, List.length_cons]; omega
theorem mem_flat_len {L : List (List Ci)} {r : List Ci} (h : r ∈ L) : r.length ≤ L.flatten.length := by
  induction L with
  | nil => cases h
  | cons x L ih =>
    rw [List.flatten_cons, List.length_append]
    rcases List.mem_cons.1 h with rfl | h
    · omega
    · have := ih h; omega
theorem blkB_len (itv : Nat) (l : List Bk.Pr) : (blkB itv l).length ≤ 2210 * l.length + 6 := by
  unfold blkB
  split
  · rename_i h
    obtain ⟨h1, h2, h3⟩ := Bk.chkF_ok h
    have := (Bk.build_tail itv l).1
    have h4 := Bk.dataN_len (itv := itv) h1 l.length
    have h5 := Bk.placeN_len itv l l.length
    omega
  · simp
theorem body_len : ∀ L : List (List Ci), (bodyF L).length ≤ 2210 * L.flatten.length + 10 * L.length
  | [] => by simp [bodyF]
  | r :: L => by
    have := body_len L
    have h1 := blkB_len 4 (r.map pairC)
    rw [List.length_map] at h1
    rw [bodyF, List.length_append, partB_len, List.flatten_cons, List.length_append, List.length_cons]
    unfold runB
    omega
theorem lay_len (L : List (List Ci)) (f : List UInt8) : (layF L f).length ≤ 2210 * L.flatten.length + 2220 * L.length + f.length + 40 := by
  have h1 := body_len L
  have h2 := blkB_len 1 (idxF L)
  have h3 : (idxF L).length = L.length := by unfold idxF; rw [List.length_map, List.length_range]
  unfold layF footF
  simp only [List.length_append, partB_len, Varint.bytesN_len]
  unfold idxB
  omega
theorem keys_len (l : List Ci) : (keysF l).length ≤ l.length := by
  have := once_len (l.map (·.key))
  rw [List.length_map] at this
  exact this
theorem addK_mem {a : List (List UInt8)} {k s : List UInt8} (h : s ∈ addK a k) : s ∈ a ∨ s = k := by
  unfold addK at h
  split at h
  · exact .inl h
  · rcases List.mem_append.1 h with h | h
    · exact .inl h
    · exact .inr (by simpa using h)
theorem once_mem : ∀ (l a : List (List UInt8)) (s : List UInt8), s ∈ l.foldl addK a → s ∈ a ∨ s ∈ l
  | [], a, s, h => .inl h
  | k :: l, a, s, h => by
    rcases once_mem l _ s h with h1 | h1
    · rcases addK_mem h1 with h2 | h2
      · exact .inl h2
      · exact .inr (by rw [h2]; exact List.mem_cons_self ..)
    · exact .inr (List.mem_cons_of_mem _ h1)
theorem keys_mem {l : List Ci} {s : List UInt8} (h : s ∈ keysF l) : ∃ c ∈ l, c.key = s := by
  rcases once_mem _ _ _ h with h | h
  · cases h
  · obtain ⟨c, h1, h2⟩ := List.mem_map.1 h
    exact ⟨c, h1, h2⟩
theorem ord_ok {l : List Ci} (h : ordF l = true) : ∀ c ∈ l, okC c = true := by
  intro c hc
  obtain ⟨i, hi, e⟩ := List.getElem_of_mem hc
  have := List.all_eq_true.1 h i (List.mem_range.2 hi)
  unfold ordAt at this
  rw [getD_get _ hi, e, Bool.and_eq_true] at this
  exact this.1
theorem keyC_le {c : Ci} (h : okC c = true) : c.key.length ≤ 64 := by
  unfold okC at h
  exact (okV_of h).2.1
theorem filterB_len (keys : List (List UInt8)) (bits : Nat) (h : keys.length ≤ 5000) (hb : bits ≤ 64) : (filterF keys bits).length ≤ 50000 := by
  have h1 : keys.length * bits ≤ 5000 * 64 := Nat.mul_le_mul h hb
  unfold filterF nF
  rw [List.length_append, Bloom.rowF_len]
  simp
  omega
theorem build_filter {l : List Ci} {bits : Int} (hl : l.length ≤ 5000) (h1 : 1 ≤ bits) (h2 : bits ≤ 64) : buildF (keysF l) bits = (filterF (keysF l) bits.toNat, 0) := by
  have := keys_len l
  unfold buildF
  rw [if_neg (by omega), if_neg (by omega)]
set_option maxRecDepth 100000 in
set_option maxHeartbeats 2000000 in
theorem tBuild_any (ad : Option Addr) (cap : Nat) (l : List Ci) (size bits : Int) (w : World) (hl : l.length ≤ 9223372036854775807) (hc : l.length ≤ cap) (hr : Row w ad (cv l)) :
    Calls Tryz.prog 9 #[.slice ad l.length cap, .int .i64 size, .int .i64 bits] w (RetBE 5 w (buildT l size bits).1 (buildT l size bits).2) := by
  have HCk := Lib.hid (fun w' (h : Row w' ad (cv l)) => tcheck_any ad cap l size bits w' hl h)
  by_cases hck : chkT l size bits = 0
  · rw [hck] at HCk
    obtain ⟨s1, s2, b1, b2, hl5, hbg, hne, hord⟩ := chkT_ok hck
    have hbf := build_filter hl5 b1 b2
    have HB := Lib.hid (show buildT l size bits = (layF (runsF size l) (filterF (keysF l) bits.toNat), 0) by unfold buildT; rw [if_pos hck, hbf])
    have hkl := keys_len l
    have hsh : Short (keysF l) := fun s hs => by
      obtain ⟨c, h1, h2⟩ := keys_mem hs
      have := keyC_le (ord_ok hord c h1)
      rw [h2] at this
      omega
    have HKs := Lib.hid (fun w' (h : Row w' ad (cv l)) => keys_any ad cap l w' h (by omega))
    have HBl := Lib.hid (fun ad' cap' w' (h : Row w' ad' (sv (keysF l))) => bBuild_any ad' cap' (keysF l) bits w' (by omega) h hsh (by omega) (by omega))
    rw [hbf] at HBl
    have HRu := Lib.hid (fun w' (h : Row w' ad (cv l)) => runs_any ad cap l size w' h hl5 hc (fun c hc => sizeC_le (big_le hbg c hc)))
    have hfl := filterB_len (keysF l) bits.toNat (by omega) (by omega)
    have hrn := runsG_ne size l [] 0
    have hfn := runs_flat size l
    have hrl : (runsF size l).length ≤ 5000 := by
      have := flatC_len (L := runsF size l) hrn
      rw [hfn] at this
      omega
    have hlay := lay_len (runsF size l) (filterF (keysF l) bits.toNat)
    rw [hfn] at hlay
    have HLy := Lib.hid (fun ad' cap' vs adf cf w' (h1 : Row w' ad' vs) (h2 : SlsOf (runsF size l) vs w') (h3 : Bytes w' adf (filterF (keysF l) bits.toNat)) => lay_any ad' cap' (runsF size l) vs adf cf (filterF (keysF l) bits.toNat) w' h1 h2 hrn
      (fun r hr => by have := mem_flat_len hr; rw [hfn] at this; omega) hrl (by rw [hfn]; exact hl5) (fun r _ c _ => sortG_len _ _ _) h3 (by omega))
    have HR := Lib.hid hr
    clear hck hr hbg hne hord hbf hkl hsh hfl hrn hfn hrl hlay s1 s2 b1 b2 hl
    generalize filterF (keysF l) bits.toNat = f at *
    generalize keysF l = K at *
    generalize runsF size l = L at *
    rw [HB.out]
    go_enter Tryz.func9, Tryz.ntmps9
    go_wp2_with (first
      | (go_at_call 41; go_must (refine (HCk.out _ HR.out).mono ?_); rintro e w1 ⟨rfl, g1⟩)
      | (go_at_call 43; go_must (refine (HKs.out _ (HR.out.gr g1)).mono ?_); rintro e w2 ⟨ad2, c2, rfl, r2, g2⟩)
      | (go_at_call 42; go_must (refine (HBl.out _ _ _ r2).mono ?_); rintro e w3 ⟨ad3, c3, rfl, o3, g3⟩
         have G3 := (g1.trans g2).trans g3)
      | (go_at_call 45; go_must (refine (HRu.out _ (HR.out.gr G3)).mono ?_); rintro e w4 ⟨ad4, c4, vs4, rfl, o4, s4, g4⟩)
      | (go_at_call 44; go_must (refine (HLy.out _ _ _ _ _ _ o4.row s4 (o3.gr g4).bytes).mono ?_); rintro e w5 ⟨ad5, c5, rfl, o5, g5⟩)
      | fail)
    go_ret2
    exact ⟨ad5, c5, rfl, o5.base (Nat.le_trans G3.size g4.size), (G3.trans g4).trans g5⟩
  · have HB := Lib.hid (show buildT l size bits = ([], chkT l size bits) by unfold buildT; rw [if_neg hck])
    have HR := Lib.hid hr
    rw [HB.out]
    obtain ⟨c, hcc⟩ : ∃ c, c = chkT l size bits := ⟨_, rfl⟩
    rw [← hcc] at HCk hck ⊢
    have hcb : ((c : Int) != 0) = true := by rw [bne_iff_ne]; omega
    clear hcc hr hck
    go_enter Tryz.func9, Tryz.ntmps9
    go_wp2_with (first
      | (go_at_call 41; go_must (refine (HCk.out _ HR.out).mono ?_); rintro e w1 ⟨rfl, g1⟩)
      | fail)
    go_ret2
    exact ⟨none, 0, rfl, Owns.empty _ _ _ _, g1⟩
end Go.Proofs.YtpaogoehgkoaeaaGreatDoor
