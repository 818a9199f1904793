/- Layer 3 (varint): VarintPuts answers true. -/
import Derived.Test.YtmbjihjcblklmaaVarintLaws
namespace Go.Proofs.Ytmbjihjcblklmaa
open Go.RowKit Varint
set_option maxRecDepth 100000 in
set_option maxHeartbeats 4000000 in
theorem VarintPuts_any (n : Nat) (m : Int) (t : ByteArray) (w : World) (hn : n < 18446744073709551616) (h1 : -9223372036854775808 ≤ m) (h2 : m ≤ 9223372036854775807) (hm : t.size ≤ 140737488351232) :
    Calls Try.prog 4 #[.int .u64 n, .int .i64 m, .string t] w fun e w' => e = .returned (.bool true) ∧ Gr w w' := by
  go_enter Try.func4, Try.ntmps4
  go_wp2
  refine region_any_gr 33 [Is (.bool true), Is ?r1, Is ?r2, ReadsB (putF n), Is (.string (str (putF n))), Is ?r5, Is (.string (str (putF n))), Is (.bool true), Is ?r8, Is ?r9, Is ?r10, ReadsB (putF (foldF m)), Is (.string (str (putF (foldF m)))), Is ?r13, Is (.int .u64 (foldF m)), Is (.string (str (putF (foldF m)))), Is (.bool true), Is ?r17, Is ?r18, Is ?r19, ReadsB (putF t.size ++ t.data.toList), Is (.string (str (putF t.size ++ t.data.toList))), Is ?r22, Is (.string (str (putF t.size ++ t.data.toList))), Is (.bool true), Is ?r25, Is ?r26] (by kernel_rfl) (by kernel_rfl) (by kernel_rfl) rfl rfl ⟨Is.stable _, Is.stable _, Is.stable _, ReadsB.stable _, Is.stable _, Is.stable _, Is.stable _, Is.stable _, Is.stable _, Is.stable _, Is.stable _, ReadsB.stable _, Is.stable _, Is.stable _, Is.stable _, Is.stable _, Is.stable _, Is.stable _, Is.stable _, Is.stable _, ReadsB.stable _, Is.stable _, Is.stable _, Is.stable _, Is.stable _, Is.stable _, Is.stable _, trivial⟩ ⟨?s0, ?s1, ?s2, ?s3, ?s4, ?s5, ?s6, ?s7, ?s8, ?s9, ?s10, ?s11, ?s12, ?s13, ?s14, ?s15, ?s16, ?s17, ?s18, ?s19, ?s20, ?s21, ?s22, ?s23, ?s24, ?s25, ?s26, trivial⟩ ?fin
  case' s0 | s1 | s2 | s3 | s4 | s5 | s6 | s7 | s8 | s9 | s10 | s11 | s12 | s13 | s14 | s15 | s16 | s17 | s18 | s19 | s20 | s21 | s22 | s23 | s24 | s25 | s26 =>
    intro ρ wr hρ hg hK
    simp [readsOf, slotsOf, Op.operands, Call.operands, tmpOf, List.filterMap_cons, List.filterMap_nil, KnownAll, knownOf, srcOf, depsOf, dstOf, Region.binds, nth, Is] at hK
    obtain ⟨hc, hf, hgl⟩ := hρ
    try simp only [wantedBy, dstOf, boolOf, nth, List.getD_cons_zero, List.getD_cons_succ, List.getElem?_cons_zero, List.getElem?_cons_succ, Option.bind_some, if_true, hK, BEq.rfl]
    try go_simp
    try exact rfl
  case s0 => exact any_gr (counts_any _)
  case s3 => exact any_bytes (Put_any n _ hn)
  case s6 => exact any_gr (rPutF_any n _ hn)
  case s11 => exact any_bytes (PutSigned_any m _ h1 h2)
  case s14 => exact any_same (Fold_any m _ h1 h2)
  case s15 => exact any_gr (rPutF_any _ _ (foldF_lt m h1 h2))
  case s20 => exact any_bytes (PutText_any t _ hm)
  case s23 => exact any_gr (Text_any t _ hm)
  case s4 | s12 | s21 => exact any_str Try.underlying23 Try.underlying5 Try.underlying9 hK.1
  case fin =>
    intro w1 val hg hH
    simp only [Holds, Is, Nat.zero_add, Nat.reduceAdd] at hH
    obtain ⟨h0, h1, h2, ⟨ad3, cap3, h3, hb3⟩, h4, h5, h6, h7, h8, h9, h10, ⟨ad11, cap11, h11, hb11⟩, h12, h13, h14, h15, h16, h17, h18, h19, ⟨ad20, cap20, h20, hb20⟩, h21, h22, h23, h24, h25, h26, _⟩ := hH
    simp only [putAll, h0, h1, h2, h3, h4, h5, h6, h7, h8, h9, h10, h11, h12, h13, h14, h15, h16, h17, h18, h19, h20, h21, h22, h23, h24, h25, h26, Nat.zero_add, Nat.reduceAdd]
    go_simp
    go_wp2
    go_ret
    exact ⟨rfl, hg⟩
end Go.Proofs.Ytmbjihjcblklmaa
