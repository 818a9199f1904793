/- Layer 5 (ikey): IkeySorts answers true. -/
import Derived.Test.YtnjnehegfdimaaaDoorIkeyDocU
namespace Go.Proofs.YtnjnehegfdimaaaDoor
set_option linter.unusedVariables false
set_option linter.unusedSimpArgs false
open Go.RowKit Ikey Varint
open Go.Op (bytesLess)
theorem rDocSortable_any (k : List UInt8) (s d : Int) (w : World) :
    Calls Tryd.prog 11 #[ver k s d] w fun e w' => e = .returned (.tuple #[.string (str (sortG k s d).1), .int .i64 (errG k s d)]) ∧ Gr w w' := by
  cases h : okV k s d with
  | false =>
    have h1 : sortG k s d = ([], 1) := by unfold sortG; rw [if_neg (by rw [h]; decide)]
    have h2 : errG k s d = 1 := by unfold errG; rw [if_neg (by rw [h]; decide)]
    rw [h1, h2]
    exact rDocSortable_no k s d w h
  | true =>
    obtain ⟨e1, e2⟩ := nat_of h
    have h2 : errG k s d = 0 := by unfold errG; rw [if_pos h]
    rw [sortG_yes h, h2]
    have := rDocSortable_yes k s.toNat d.toNat w (by rw [e1, e2]; exact h)
    rw [e1, e2] at this
    exact this
set_option maxRecDepth 100000 in
set_option maxHeartbeats 4000000 in
theorem IkeySorts_any (k : List UInt8) (s d : Int) (ad : Option Addr) (cap : Nat) (l : List UInt8) (w : World) (hlc : l.length ≤ cap) (hm : l.length ≤ 140737488351232) (hb : Bytes w ad l) :
    Calls Tryd.prog 5 #[ver k s d, .slice ad l.length cap] w fun e w' => e = .returned (.bool true) ∧ Gr w w' := by
  have HRS := Lib.hid (fun w => rDocSortable_any k s d w)
  have HS := Lib.hid (fun w => Sortable_any k s d w)
  have HRU := Lib.hid (fun w => rDocUnsort_any l w hm)
  have HU := Lib.hid (fun w hb => Unsort_all ad cap l w hlc hm hb)
  rw [sortG_err] at HS
  rw [docUnsF_eq, outV_eq] at HRU
  rw [outV_eq] at HU
  unfold ver at HRS HS ⊢
  generalize verO (unsF l) = V at *
  generalize errO (unsF l) = N at *
  generalize (sortG k s d).1 = E at *
  generalize errG k s d = X at *
  have HH := Lib.hid hb; clear hb
  go_enter Tryd.func5, Tryd.ntmps5
  go_wp2_with (first
    | (go_at_call 11; (with_reducible refine (HRS.out _).mono ?_); rintro e w1 ⟨rfl, g1⟩; obtain ⟨c0, c1, c2⟩ := g1.box3; have G1 := (Gr.alloc _ _).trans g1)
    | (go_at_call 8; (with_reducible refine (HS.out _).mono ?_); rintro e w2 ⟨ady, capy, rfl, oy, g2⟩; have G2 := G1.trans g2; have hs := run_string (P := Tryd.prog) Tryd.underlying25 Tryd.underlying5 Tryd.underlying9 (cap := cap) rfl (HH.out.gr G2))
    | (go_at_call 12; (with_reducible refine (HRU.out _).mono ?_); rintro e w3 ⟨rfl, g3⟩; have G3 := G2.trans g3)
    | (go_at_call 13; (with_reducible refine (HU.out _ (HH.out.gr (G3.trans (Gr.alloc _ _)))).mono ?_); rintro e w4 ⟨rfl, g4⟩)
    | (go_at_call 7; (with_reducible refine (keyed_any _).mono ?_); rintro e w5 ⟨rfl, g5⟩
       have hs4 := run_string (P := Tryd.prog) Tryd.underlying25 Tryd.underlying5 Tryd.underlying9 (cap := capy) rfl (oy.gr (((g3.trans (Gr.alloc _ (.cells #[.string (str V.1), .int .i64 (V.2.1 : Int), .int .i64 (V.2.2 : Int)] 23))).trans (g4.trans (Gr.alloc _ (.cells #[.string (str V.1), .int .i64 (V.2.1 : Int), .int .i64 (V.2.2 : Int)] 23)))).trans g5)).bytes
       obtain ⟨x0, x1, x2, _⟩ := ((Blk.new w3 23 #[.string (str V.1), .int .i64 (V.2.1 : Int), .int .i64 (V.2.2 : Int)]).gr ((g4.trans (Gr.alloc _ (.cells #[.string (str V.1), .int .i64 (V.2.1 : Int), .int .i64 (V.2.2 : Int)] 23))).trans g5)).three
       obtain ⟨y0, y1, y2, _⟩ := ((Blk.new w4 23 #[.string (str V.1), .int .i64 (V.2.1 : Int), .int .i64 (V.2.2 : Int)]).gr g5).three)
    | fail)
  go_ret
  exact ⟨rfl, (((G3.trans (Gr.alloc _ _)).trans g4).trans (Gr.alloc _ _)).trans g5⟩
theorem IkeySorts_len (k : List UInt8) (s d : Int) (ad : Option Addr) (len cap : Nat) (l : List UInt8) (w : World) (hl : l.length = len) (hlc : len ≤ cap) (hm : len ≤ 140737488351232) (hb : Bytes w ad l) :
    Calls Tryd.prog 5 #[ver k s d, .slice ad len cap] w fun e w' => e = .returned (.bool true) ∧ Gr w w' := by
  subst hl
  exact IkeySorts_any k s d ad cap l w hlc hm hb
end Go.Proofs.YtnjnehegfdimaaaDoor
