/- Layer 3 (varint): texts. -/
import Derived.Test.YtmbjihjcblklmaaVarintGet
namespace Go.Proofs.Ytmbjihjcblklmaa
set_option linter.unusedVariables false
set_option linter.unusedSimpArgs false
open Go.RowKit Varint
theorem ret3_str {k2 k3 : IntKind} {s : ByteArray} {b c : Int} {p : List UInt8 × Nat × Nat} {x : List UInt8} {y z : Nat} (h : p = (x, y, z)) (ha : s = str x) (hb : b = (y : Int)) (hc : c = (z : Int)) :
    Ending.returned (.tuple #[.string s, .int k2 b, .int k3 c]) = .returned (.tuple #[.string (str p.1), .int k2 (p.2.1 : Int), .int k3 (p.2.2 : Int)]) := by
  subst h ha hb hc; rfl
set_option maxRecDepth 100000 in
set_option maxHeartbeats 2000000 in
theorem GetText_any (ad : Option Addr) (len cap : Nat) (l : List UInt8) (most : Int) (w : World) (hl : l.length = len) (hlc : len ≤ cap) (hm : len ≤ maxLen) (hb : Bytes w ad l) (h1 : -9223372036854775808 ≤ most) (h2 : most ≤ 9223372036854775807) :
    Calls Try.prog 22 #[.slice ad len cap, .int .i64 most] w fun e w' => e = .returned (.tuple #[.string (str (getTextF l most).1), .int .i64 (getTextF l most).2.1, .int .i64 (getTextF l most).2.2]) ∧ w = w' := by
  have hlt := getF_lt l
  have hle := getF_le l
  have G := Lib.hid (Get_any ad len cap l w hl hm hb)
  unfold maxLen at hm
  have HT := Lib.hid (show getTextF l most = _ from rfl)
  generalize hp : getF l = p at *
  obtain ⟨n, k, e⟩ := p
  have HP := Lib.hid hp; clear hp
  simp only at hlt hle
  by_cases he : e = 0
  · subst he
    by_cases hmo : most < 0
    · have HR := Lib.hid (show getTextF l most = ([], 0, 14) by unfold getTextF; rw [HP.out]; simp [hmo])
      go_enter Try.func22, Try.ntmps22
      go_wp2_with (go_at_call 18; refine G.out.mono ?_; rintro e w' ⟨rfl, rfl⟩)
      go_ret3
      exact ⟨ret3_str HR.out rfl rfl rfl, rfl⟩
    · have hcv : IntKind.u64.wrap most = most := by rw [IntKind.wrap_u64]; omega
      have HCV := Lib.hid hcv; clear hcv
      by_cases hmn : most < (n : Int)
      · have HR := Lib.hid (show getTextF l most = ([], 0, 14) by unfold getTextF; rw [HP.out]; simp [hmn])
        go_enter Try.func22, Try.ntmps22
        go_wp2_with (go_at_call 18; refine G.out.mono ?_; rintro e w' ⟨rfl, rfl⟩)
        go_ret3
        exact ⟨ret3_str HR.out rfl rfl rfl, rfl⟩
      · by_cases hn : len - k < n
        · have HR := Lib.hid (show getTextF l most = ([], 0, 9) by unfold getTextF; rw [HP.out]; simp [hmo, hmn, hl, hn])
          have hn' : (len : Int) - (k : Int) < (n : Int) := by omega
          go_enter Try.func22, Try.ntmps22
          go_wp2_with (go_at_call 18; refine G.out.mono ?_; rintro e w' ⟨rfl, rfl⟩)
          go_ret3
          exact ⟨ret3_str HR.out rfl rfl rfl, rfl⟩
        · have HR := Lib.hid (show getTextF l most = ((l.drop k).take n, k + n, 0) by unfold getTextF; rw [HP.out]; simp [hmo, hmn, hl, hn])
          have hn' : ¬ (len : Int) - (k : Int) < (n : Int) := by omega
          have hkn : k + n ≤ len := by omega
          by_cases hck : cap = k
          · have hn0 : n = 0 := by omega
            have HS := run_string (P := Try.prog) Try.underlying23 Try.underlying5 Try.underlying9 (cap := 0) (ad := ad) (w := w) (l := []) (len := 0) rfl (fun i hi => absurd hi (by simp))
            have HN := Lib.hid hn0; clear hn0
            subst hck
            obtain rfl : n = 0 := HN.out
            go_enter Try.func22, Try.ntmps22
            go_wp2_with (go_at_call 18; refine G.out.mono ?_; rintro e w' ⟨rfl, rfl⟩)
            go_ret3
            exact ⟨ret3_str HR.out rfl (by omega) rfl, rfl⟩
          · have HS := run_string (P := Try.prog) Try.underlying23 Try.underlying5 Try.underlying9 (cap := cap - k) (cut_len (by omega)) (hb.cut k n (by omega))
            go_enter Try.func22, Try.ntmps22
            go_wp2_with (go_at_call 18; refine G.out.mono ?_; rintro e w' ⟨rfl, rfl⟩)
            go_ret3
            exact ⟨ret3_str HR.out rfl (by omega) rfl, rfl⟩
  · have HR := Lib.hid (show getTextF l most = ([], 0, e) by unfold getTextF; rw [HP.out]; simp [he])
    have hb : ((e : Int) != 0) = true := by rw [bne_iff_ne]; omega
    clear he
    go_enter Try.func22, Try.ntmps22
    go_wp2_with (go_at_call 18; refine G.out.mono ?_; rintro e w' ⟨rfl, rfl⟩)
    go_ret3
    exact ⟨ret3_str HR.out rfl rfl rfl, rfl⟩
theorem extract_str (t : ByteArray) (k n : Nat) : t.extract k (k + n) = str ((t.data.toList.drop k).take n) := by
  apply ByteArray.ext
  rw [ByteArray.data_extract]
  apply Array.ext'
  simp [str, List.drop_take]
set_option maxRecDepth 100000 in
set_option maxHeartbeats 2000000 in
theorem rGetText_any (t : ByteArray) (most : Int) (w : World) (hm : t.size ≤ maxLen) (h1 : -9223372036854775808 ≤ most) (h2 : most ≤ 9223372036854775807) :
    Calls Try.prog 21 #[.string t, .int .i64 most] w fun e w' => e = .returned (.tuple #[.string (str (getTextF t.data.toList most).1), .int .i64 (getTextF t.data.toList most).2.1, .int .i64 (getTextF t.data.toList most).2.2]) ∧ w = w' := by
  have G := Lib.hid (rGet_any t w hm)
  have HX := Lib.hid (extract_str t)
  have hl : t.data.toList.length = t.size := by simp
  generalize t.data.toList = l at *
  have hlt := getF_lt l
  have hle := getF_le l
  unfold maxLen at hm
  rw [hl] at hle
  have HL := Lib.hid hl; clear hl
  generalize hp : getF l = p at *
  obtain ⟨n, k, e⟩ := p
  have HP := Lib.hid hp; clear hp
  simp only at hlt hle
  by_cases he : e = 0
  · subst he
    by_cases hmo : most < 0
    · have HR := Lib.hid (show getTextF l most = ([], 0, 14) by unfold getTextF; rw [HP.out]; simp [hmo])
      go_enter Try.func21, Try.ntmps21
      go_wp2_with (go_at_call 17; refine G.out.mono ?_; rintro e w' ⟨rfl, rfl⟩)
      go_ret3
      exact ⟨ret3_str HR.out rfl rfl rfl, rfl⟩
    · by_cases hmn : most < (n : Int)
      · have HR := Lib.hid (show getTextF l most = ([], 0, 14) by unfold getTextF; rw [HP.out]; simp [hmn])
        go_enter Try.func21, Try.ntmps21
        go_wp2_with (go_at_call 17; refine G.out.mono ?_; rintro e w' ⟨rfl, rfl⟩)
        go_ret3
        exact ⟨ret3_str HR.out rfl rfl rfl, rfl⟩
      · by_cases hn : t.size - k < n
        · have HR := Lib.hid (show getTextF l most = ([], 0, 9) by unfold getTextF; rw [HP.out]; simp [hmo, hmn, HL.out, hn])
          have hn' : (t.size : Int) - (k : Int) < (n : Int) := by omega
          go_enter Try.func21, Try.ntmps21
          go_wp2_with (go_at_call 17; refine G.out.mono ?_; rintro e w' ⟨rfl, rfl⟩)
          go_ret3
          exact ⟨ret3_str HR.out rfl rfl rfl, rfl⟩
        · have HR := Lib.hid (show getTextF l most = ((l.drop k).take n, k + n, 0) by unfold getTextF; rw [HP.out]; simp [hmo, hmn, HL.out, hn])
          have hn' : ¬ (t.size : Int) - (k : Int) < (n : Int) := by omega
          have hkn : k + n ≤ t.size := by omega
          have hcut := run_str_cut (P := Try.prog) Try.underlying9 t k n hkn w
          go_enter Try.func21, Try.ntmps21
          go_wp2_with (go_at_call 17; refine G.out.mono ?_; rintro e w' ⟨rfl, rfl⟩)
          go_ret3
          exact ⟨ret3_str HR.out (HX.out k n) (by omega) rfl, rfl⟩
  · have HR := Lib.hid (show getTextF l most = ([], 0, e) by unfold getTextF; rw [HP.out]; simp [he])
    have hb : ((e : Int) != 0) = true := by rw [bne_iff_ne]; omega
    clear he
    go_enter Try.func21, Try.ntmps21
    go_wp2_with (go_at_call 17; refine G.out.mono ?_; rintro e w' ⟨rfl, rfl⟩)
    go_ret3
    exact ⟨ret3_str HR.out rfl rfl rfl, rfl⟩
end Go.Proofs.Ytmbjihjcblklmaa
