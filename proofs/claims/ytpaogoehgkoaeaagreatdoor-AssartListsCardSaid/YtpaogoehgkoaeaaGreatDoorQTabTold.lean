/- Layer 14 (table): the law's tabled walked: a version is told by its table. -/
import Derived.Test.YtpaogoehgkoaeaaGreatDoorQTabAns
namespace Go.Proofs.YtpaogoehgkoaeaaGreatDoor
set_option linter.unusedVariables false
set_option linter.unusedSimpArgs false
open Go.RowKit Tab
/-- the contracts of a table that was built -/
theorem Built.get {C : List Ci} {f : List UInt8} (h : Built C f) (w : World) (g : Nat) (ht : TabAt w g C f) (key : List UInt8) (hk : key.length ≤ 9223372036854775807) (seq : Int) :
    Calls Tryz.prog 27 #[.pointer (some ⟨g, 0, none⟩), .string (str key), .int .i64 seq] w fun e w' => e = .returned (.tuple #[cellOf (rgetF C key seq).1, .int .i64 (rgetF C key seq).2]) ∧ Gr w w' := by
  have hl := h.len
  have hf := h.flen
  have := tGet_any w g C f key seq ht (by omega) (by omega) hk (mono_of h.asc _)
  rwa [get_is h.asc h.ok h.sees] at this
theorem Built.from_ {C : List Ci} {f : List UInt8} (h : Built C f) (w : World) (g : Nat) (ht : TabAt w g C f) (v : Vr) (most : Int) (h0 : 0 ≤ most) :
    Calls Tryz.prog 11 #[.pointer (some ⟨g, 0, none⟩), ver v.key v.seq v.kind, .int .i64 most] w (RetCs w ((C.filter (fun c => !vless c.vr v)).take most.toNat)) := by
  have hl := h.len
  have := tFrom_any w g C f v most ht h.ne (by omega) (mono_of h.asc _) h0
  rwa [from_is h.asc] at this
/-- bytes that were built are opened -/
theorem Open_own {l : List Ci} {size bits : Int} (h : chkT l size bits = 0) (ad : Option Addr) (cap : Nat) (w : World) (hc : (buildT l size bits).1.length ≤ cap) (hm : cap ≤ maxLen) (hb : Bytes w ad (buildT l size bits).1) :
    Calls Tryz.prog 10 #[.slice ad (buildT l size bits).1.length cap] w fun e w' => ∃ g, e = .returned (.tuple #[.pointer (some ⟨g, 0, none⟩), .int .i64 0]) ∧ TabFrom w.heap.size w' g l (buildF (keysF l) bits).1 ∧ Gr w w' := by
  obtain ⟨h1, _, h3, _⟩ := open_build h
  refine (Open_any ad cap _ w hc hm (by omega) hb).mono fun e w' ⟨p, e1, e2, _, e4⟩ => ?_
  rw [h1] at e1 e4
  obtain ⟨g, rfl, hT⟩ := e4 _ _ rfl
  exact ⟨g, e1, hT, e2⟩
theorem Open_built {l : List Ci} {size bits : Int} (h : chkT l size bits = 0) (ad : Option Addr) (cap : Nat) (w : World) (hc : (buildT l size bits).1.length ≤ cap) (hm : cap ≤ maxLen) (hb : Bytes w ad (buildT l size bits).1) :
    Calls Tryz.prog 10 #[.slice ad (buildT l size bits).1.length cap] w fun e w' => ∃ g, e = .returned (.tuple #[.pointer (some ⟨g, 0, none⟩), .int .i64 0]) ∧ TabAt w' g l (buildF (keysF l) bits).1 ∧ Gr w w' :=
  (Open_own h ad cap w hc hm hb).mono fun e w' ⟨g, h1, h2, h3⟩ => ⟨g, h1, h2.at_, h3⟩
end Go.Proofs.YtpaogoehgkoaeaaGreatDoor
