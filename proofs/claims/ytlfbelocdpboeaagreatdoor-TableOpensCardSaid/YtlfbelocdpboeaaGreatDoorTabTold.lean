/- Layer 14 (table): the law's tabled walked: a version is told by its table. -/
import Derived.Test.YtlfbelocdpboeaaGreatDoorTabAns
namespace Go.Proofs.YtlfbelocdpboeaaGreatDoor
set_option linter.unusedVariables false
set_option linter.unusedSimpArgs false
open Go.RowKit Tab
/-- the contracts of a table that was built -/
theorem Built.get {C : List Ci} {f : List UInt8} (h : Built C f) (w : World) (g : Nat) (ht : TabAt w g C f) (key : List UInt8) (hk : key.length ≤ 9223372036854775807) (seq : Int) :
    Calls Tryz.prog 15 #[.pointer (some ⟨g, 0, none⟩), .string (str key), .int .i64 seq] w fun e w' => e = .returned (.tuple #[cellOf (rgetF C key seq).1, .int .i64 (rgetF C key seq).2]) ∧ Gr w w' := by
  have hl := h.len
  have hf := h.flen
  have := tGet_any w g C f key seq ht (by omega) (by omega) hk (mono_of h.asc _)
  rwa [get_is h.asc h.ok h.sees] at this
theorem Built.from_ {C : List Ci} {f : List UInt8} (h : Built C f) (w : World) (g : Nat) (ht : TabAt w g C f) (v : Vr) (most : Int) (h0 : 0 ≤ most) :
    Calls Tryz.prog 12 #[.pointer (some ⟨g, 0, none⟩), ver v.key v.seq v.kind, .int .i64 most] w (RetCs w ((C.filter (fun c => !vless c.vr v)).take most.toNat)) := by
  have hl := h.len
  have := tFrom_any w g C f v most ht h.ne (by omega) (mono_of h.asc _) h0
  rwa [from_is h.asc] at this
theorem Built.may {C : List Ci} {f : List UInt8} (h : Built C f) (w : World) (g : Nat) (ht : TabAt w g C f) (key : List UInt8) (hk : key.length ≤ 9223372036854775807) :
    Calls Tryz.prog 40 #[.pointer (some ⟨g, 0, none⟩), .string (str key)] w fun e w' => e = .returned (.bool (mayF f (Bloom.hashF key))) ∧ Gr w w' := by
  have hf := h.flen
  exact tMay_any w g C f key ht (by omega) hk
/-- bytes that were built are opened -/
theorem Open_own {l : List Ci} {size bits : Int} (h : chkT l size bits = 0) (ad : Option Addr) (cap : Nat) (w : World) (hc : (buildT l size bits).1.length ≤ cap) (hm : cap ≤ maxLen) (hb : Bytes w ad (buildT l size bits).1) :
    Calls Tryz.prog 10 #[.slice ad (buildT l size bits).1.length cap] w fun e w' => ∃ g, e = .returned (.tuple #[.pointer (some ⟨g, 0, none⟩), .int .i64 0]) ∧ TabFrom w.heap.size w' g l (buildF (keysF l) bits).1 ∧ Gr w w' := by
  obtain ⟨h1, _, h3, _⟩ := open_build h
  refine (Open_any ad cap _ w hc hm (by omega) hb).mono fun e w' ⟨p, e1, e2, _, e4⟩ => ?_
  rw [h1] at e1 e4
  obtain ⟨g, rfl, hT⟩ := e4 _ _ rfl
  exact ⟨g, e1, hT, e2⟩
theorem Open_built {l : List Ci} {size bits : Int} (h : chkT l size bits = 0) (ad : Option Addr) (cap : Nat) (w : World) (hc : (buildT l size bits).1.length ≤ cap) (hm : cap ≤ maxLen) (hb : Bytes w ad (buildT l size bits).1) :
    Calls Tryz.prog 10 #[.slice ad (buildT l size bits).1.length cap] w fun e w' => ∃ g, e = .returned (.tuple #[.pointer (some ⟨g, 0, none⟩), .int .i64 0]) ∧ TabAt w' g l (buildF (keysF l) bits).1 ∧ Gr w w' :=
  (Open_own h ad cap w hc hm hb).mono fun e w' ⟨g, h1, h2, h3⟩ => ⟨g, h1, h2.at_, h3⟩
set_option maxRecDepth 100000 in
set_option maxHeartbeats 1000000 in
theorem tabled_any (w : World) : Calls Tryz.prog 5 #[] w fun e w' => e = .returned (.bool true) ∧ Gr w w' := by
  have hB := built_of one_chk
  obtain ⟨_, hz, hl, _⟩ := open_build one_chk
  have HG := Lib.hid (Gr.alloc w (.cells #[.string ⟨#[97]⟩, .int .i64 1, .int .i64 1, .string ⟨#[120]⟩] 48))
  have HBl := Lib.hid (show Calls Tryz.prog 7 #[.slice (some ⟨w.heap.size, 0, none⟩) 1 1, .int .i64 100, .int .i64 10] (w.alloc (.cells #[.string ⟨#[97]⟩, .int .i64 1, .int .i64 1, .string ⟨#[120]⟩] 48)) (RetBE 5 (w.alloc (.cells #[.string ⟨#[97]⟩, .int .i64 1, .int .i64 1, .string ⟨#[120]⟩] 48)) (buildT [oneC] 100 10).1 (buildT [oneC] 100 10).2) from
    tBuild_any (some ⟨w.heap.size, 0, none⟩) 1 [oneC] 100 10 _ (by decide) (by decide) (Row.alloc w #[.string ⟨#[97]⟩, .int .i64 1, .int .i64 1, .string ⟨#[120]⟩] 48 (0, 0) _ rfl))
  rw [hz] at HBl
  have HOp := Lib.hid (fun ad cap w' => Open_built one_chk ad cap w')
  have HCt := Lib.hid (fun w' g f h => Count_any w' g [oneC] f h)
  have HG1 := Lib.hid (show ∀ w' g, TabAt w' g [oneC] (buildF (keysF [oneC]) 10).1 → Calls Tryz.prog 15 #[.pointer (some ⟨g, 0, none⟩), .string ⟨#[97]⟩, .int .i64 5] w' fun e w'' => e = .returned (.tuple #[.agg #[.string ⟨#[97]⟩, .int .i64 1, .int .i64 1, .string ⟨#[120]⟩], .int .i64 0]) ∧ Gr w' w'' from fun w' g h => by
    have := hB.get w' g h [97] (by decide) 5
    rw [show rgetF [oneC] [97] 5 = (oneC, 0) by decide] at this
    exact this)
  have HG2 := Lib.hid (show ∀ w' g, TabAt w' g [oneC] (buildF (keysF [oneC]) 10).1 → Calls Tryz.prog 15 #[.pointer (some ⟨g, 0, none⟩), .string ⟨#[97]⟩, .int .i64 0] w' fun e w'' => e = .returned (.tuple #[.agg #[.string ⟨#[]⟩, .int .i64 0, .int .i64 0, .string ⟨#[]⟩], .int .i64 7]) ∧ Gr w' w'' from fun w' g h => by
    have := hB.get w' g h [97] (by decide) 0
    rw [show rgetF [oneC] [97] 0 = (zeroC, 7) by decide] at this
    exact this)
  clear hB hz hl
  generalize (buildF (keysF [oneC]) 10).1 = f at *
  generalize (buildT [oneC] 100 10).1 = b at *
  go_enter Tryz.func5, Tryz.ntmps5
  go_wp2_with (first
    | (go_at_call 7; go_must (refine HBl.out.mono ?_); rintro e w1 ⟨ad1, c1, rfl, o1, g1⟩)
    | (go_at_call 10; go_must (refine (HOp.out ad1 c1 w1 o1.2.1 o1.2.2.1 o1.bytes).mono ?_); rintro e w2 ⟨g, rfl, hT, g2⟩)
    | (go_at_call 15; (with_reducible refine (HG1.out w2 g hT).mono ?_); rintro e w3 ⟨rfl, g3⟩
       clear HG1
       have b3 := Blk.new w3 48 #[.string ⟨#[97]⟩, .int .i64 1, .int .i64 1, .string ⟨#[120]⟩]
       have z3 := b3.cell (i := 3) rfl
       have HT3 := Lib.hid ((hT.gr g3).gr (Gr.alloc w3 (.cells #[.string ⟨#[97]⟩, .int .i64 1, .int .i64 1, .string ⟨#[120]⟩] 48)))
       have HG3 := Lib.hid (((HG.out.trans g1).trans g2).trans (g3.trans (Gr.alloc w3 (.cells #[.string ⟨#[97]⟩, .int .i64 1, .int .i64 1, .string ⟨#[120]⟩] 48))))
       clear hT b3)
    | (go_at_call 15; go_must (refine (HG2.out _ g HT3.out).mono ?_); rintro e w4 ⟨rfl, g4⟩
       have g5 := g4.trans (Gr.alloc w4 (.cells #[.string ⟨#[]⟩, .int .i64 0, .int .i64 0, .string ⟨#[]⟩] 48))
       replace z3 := g5.cell z3
       have HT5 := Lib.hid (HT3.out.gr g5))
    | (go_at_call 11; go_must (refine (HCt.out _ g f HT5.out).mono ?_); rintro e w' ⟨rfl, rfl⟩)
    | fail)
  go_ret
  exact ⟨rfl, HG3.out.trans g5⟩
end Go.Proofs.YtlfbelocdpboeaaGreatDoor
