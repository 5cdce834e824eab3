/-
  DERIVED. GIVEN WITH THE SEED: THE PROGRAM's TIES (one call each: nine closed facts by the kernel) AND EACH ROW's TIE, after the 31st guide's Derived/Test/Toyas{Tie, Card}.lean. No idea stands in it: it is a product of the set-up. Laid BY PROGRAM, IN A SANDBOX (cutbox-door.mjs). By AI agents, Wed Nov 11 2026. No macro, syntax, notation, axiom, sorry.
-/
import Derived.Test.YthlolfncdjaniaaDoorRows
import Derived.LaidByTextLater
import Derived.SevenTiedAt
import Derived.LaidSub
import Derived.LaidOnce
namespace Go.Proofs.YthlolfncdjaniaaDoor
open Go
set_option maxRecDepth 100000
theorem seatTie1 : Tryd.prog.laidByTextLater [("unicode/utf8.acceptRanges", Rows.laid_unicode_utf8_acceptRanges), ("copse/api.ErrArg", Rows.laid_copse_api_ErrArg), ("copse/api.ErrText", Rows.laid_copse_api_ErrText), ("copse/api.ErrMany", Rows.laid_copse_api_ErrMany), ("copse/api.ErrShort", Rows.laid_copse_api_ErrShort), ("copse/api.ErrTwice", Rows.laid_copse_api_ErrTwice), ("copse/api.ErrLost", Rows.laid_copse_api_ErrLost), ("copse/api.ErrFull", Rows.laid_copse_api_ErrFull), ("copse/api.ErrDead", Rows.laid_copse_api_ErrDead), ("copse/api.ErrCorrupt", Rows.laid_copse_api_ErrCorrupt), ("copse/api.ErrStatus", Rows.laid_copse_api_ErrStatus), ("copse/api.ErrTxid", Rows.laid_copse_api_ErrTxid), ("copse/api.ErrOrder", Rows.laid_copse_api_ErrOrder), ("copse/api.ErrKind", Rows.laid_copse_api_ErrKind)] [.data, .sentinel, .sentinel, .sentinel, .sentinel, .sentinel, .sentinel, .sentinel, .sentinel, .sentinel, .sentinel, .sentinel, .sentinel, .sentinel] true :=
  Program.laidByTextLater_by_one 266 8 33 (by kernel_rfl) (by kernel_rfl) (by kernel_rfl) (by kernel_rfl) (by kernel_rfl) (by kernel_rfl) (fun _ _ => by kernel_rfl)
theorem pin_laid_unicode_utf8_first : Tryd.pinned.checked.prog.pinnedFits "unicode/utf8.first" = true := by kernel_rfl
theorem noOwnUnsafe : Tryd.pinned.checked.prog.headLifts.contains "ownunsafe" = false := by kernel_rfl
theorem tie : Tryd.prog.laidByTextLater [("copse/api.ErrArg", Rows.laid_copse_api_ErrArg), ("copse/api.ErrText", Rows.laid_copse_api_ErrText), ("copse/api.ErrMany", Rows.laid_copse_api_ErrMany), ("copse/api.ErrShort", Rows.laid_copse_api_ErrShort), ("copse/api.ErrTwice", Rows.laid_copse_api_ErrTwice), ("copse/api.ErrLost", Rows.laid_copse_api_ErrLost), ("copse/api.ErrFull", Rows.laid_copse_api_ErrFull), ("copse/api.ErrDead", Rows.laid_copse_api_ErrDead), ("copse/api.ErrCorrupt", Rows.laid_copse_api_ErrCorrupt), ("copse/api.ErrStatus", Rows.laid_copse_api_ErrStatus), ("copse/api.ErrTxid", Rows.laid_copse_api_ErrTxid), ("copse/api.ErrOrder", Rows.laid_copse_api_ErrOrder), ("copse/api.ErrKind", Rows.laid_copse_api_ErrKind)] [.sentinel, .sentinel, .sentinel, .sentinel, .sentinel, .sentinel, .sentinel, .sentinel, .sentinel, .sentinel, .sentinel, .sentinel, .sentinel] true :=
  Program.laidByTextLater.sub seatTie1 ["copse/api.ErrArg", "copse/api.ErrText", "copse/api.ErrMany", "copse/api.ErrShort", "copse/api.ErrTwice", "copse/api.ErrLost", "copse/api.ErrFull", "copse/api.ErrDead", "copse/api.ErrCorrupt", "copse/api.ErrStatus", "copse/api.ErrTxid", "copse/api.ErrOrder", "copse/api.ErrKind"] (by kernel_rfl) (by kernel_rfl)
theorem tupleUnpacks_row_tie : Rows.tupleUnpacksRow.laidByTextAt .later Tryd.pinned [.sentinel, .sentinel, .sentinel, .sentinel, .sentinel, .sentinel, .sentinel, .sentinel, .sentinel, .sentinel, .sentinel, .sentinel, .sentinel] true :=
  OpenClaim.laidByTextAt_later rfl rfl tie noOwnUnsafe
theorem fits2 : Tryd.pinned.checked.prog.listedFits [("unicode/utf8.acceptRanges", Rows.laid_unicode_utf8_acceptRanges), ("copse/api.ErrArg", Rows.laid_copse_api_ErrArg), ("copse/api.ErrMany", Rows.laid_copse_api_ErrMany), ("unicode/utf8.first", Rows.laid_unicode_utf8_first)] = true := by
  unfold Program.listedFits
  rw [noOwnUnsafe]
  kernel_rfl
theorem tie2 : Tryd.prog.laidByTextLater [("unicode/utf8.acceptRanges", Rows.laid_unicode_utf8_acceptRanges), ("copse/api.ErrArg", Rows.laid_copse_api_ErrArg), ("copse/api.ErrMany", Rows.laid_copse_api_ErrMany)] [.data, .sentinel, .sentinel] true :=
  Program.laidByTextLater.sub seatTie1 ["unicode/utf8.acceptRanges", "copse/api.ErrArg", "copse/api.ErrMany"] (by kernel_rfl) (by kernel_rfl)
theorem tuplePrefix_row_tie : Rows.tuplePrefixRow.laidByTextAt .later Tryd.pinned [.data, .sentinel, .sentinel, .pinned] true :=
  OpenClaim.laidByTextAt_pinned rfl rfl tie2 rfl rfl rfl rfl (fun y hy _e => by
    simp only [Rows.tuplePrefixRow, List.zip_cons_cons, List.zip_nil_right, List.mem_cons, List.mem_nil_iff, or_false] at hy
    rcases hy with rfl | rfl | rfl | rfl
    · cases _e
    · cases _e
    · cases _e
    · exact ⟨pin_laid_unicode_utf8_first, by kernel_rfl⟩) fits2
theorem tupleOrder_row_tie : Rows.tupleOrderRow.laidByTextAt .later Tryd.pinned [.data, .sentinel, .sentinel, .pinned] true :=
  OpenClaim.laidByTextAt_pinned rfl rfl tie2 rfl rfl rfl rfl (fun y hy _e => by
    simp only [Rows.tupleOrderRow, List.zip_cons_cons, List.zip_nil_right, List.mem_cons, List.mem_nil_iff, or_false] at hy
    rcases hy with rfl | rfl | rfl | rfl
    · cases _e
    · cases _e
    · cases _e
    · exact ⟨pin_laid_unicode_utf8_first, by kernel_rfl⟩) fits2
theorem fits3 : Tryd.pinned.checked.prog.listedFits [("unicode/utf8.acceptRanges", Rows.laid_unicode_utf8_acceptRanges), ("copse/api.ErrArg", Rows.laid_copse_api_ErrArg), ("copse/api.ErrText", Rows.laid_copse_api_ErrText), ("copse/api.ErrMany", Rows.laid_copse_api_ErrMany), ("unicode/utf8.first", Rows.laid_unicode_utf8_first)] = true := by
  unfold Program.listedFits
  rw [noOwnUnsafe]
  kernel_rfl
theorem tie3 : Tryd.prog.laidByTextLater [("unicode/utf8.acceptRanges", Rows.laid_unicode_utf8_acceptRanges), ("copse/api.ErrArg", Rows.laid_copse_api_ErrArg), ("copse/api.ErrText", Rows.laid_copse_api_ErrText), ("copse/api.ErrMany", Rows.laid_copse_api_ErrMany)] [.data, .sentinel, .sentinel, .sentinel] true :=
  Program.laidByTextLater.sub seatTie1 ["unicode/utf8.acceptRanges", "copse/api.ErrArg", "copse/api.ErrText", "copse/api.ErrMany"] (by kernel_rfl) (by kernel_rfl)
theorem tupleBack_row_tie : Rows.tupleBackRow.laidByTextAt .later Tryd.pinned [.data, .sentinel, .sentinel, .sentinel, .pinned] true :=
  OpenClaim.laidByTextAt_pinned rfl rfl tie3 rfl rfl rfl rfl (fun y hy _e => by
    simp only [Rows.tupleBackRow, List.zip_cons_cons, List.zip_nil_right, List.mem_cons, List.mem_nil_iff, or_false] at hy
    rcases hy with rfl | rfl | rfl | rfl | rfl
    · cases _e
    · cases _e
    · cases _e
    · cases _e
    · exact ⟨pin_laid_unicode_utf8_first, by kernel_rfl⟩) fits3
theorem tupleMemory_row_tie : Rows.tupleMemoryRow.laidByTextAt .later Tryd.pinned [.data, .sentinel, .sentinel, .sentinel, .pinned] true :=
  OpenClaim.laidByTextAt_pinned rfl rfl tie3 rfl rfl rfl rfl (fun y hy _e => by
    simp only [Rows.tupleMemoryRow, List.zip_cons_cons, List.zip_nil_right, List.mem_cons, List.mem_nil_iff, or_false] at hy
    rcases hy with rfl | rfl | rfl | rfl | rfl
    · cases _e
    · cases _e
    · cases _e
    · cases _e
    · exact ⟨pin_laid_unicode_utf8_first, by kernel_rfl⟩) fits3
theorem fits4 : Tryd.pinned.checked.prog.listedFits [("unicode/utf8.acceptRanges", Rows.laid_unicode_utf8_acceptRanges), ("copse/api.ErrArg", Rows.laid_copse_api_ErrArg), ("copse/api.ErrText", Rows.laid_copse_api_ErrText), ("copse/api.ErrMany", Rows.laid_copse_api_ErrMany), ("copse/api.ErrShort", Rows.laid_copse_api_ErrShort), ("copse/api.ErrTwice", Rows.laid_copse_api_ErrTwice), ("copse/api.ErrLost", Rows.laid_copse_api_ErrLost), ("copse/api.ErrFull", Rows.laid_copse_api_ErrFull), ("copse/api.ErrDead", Rows.laid_copse_api_ErrDead), ("copse/api.ErrCorrupt", Rows.laid_copse_api_ErrCorrupt), ("copse/api.ErrStatus", Rows.laid_copse_api_ErrStatus), ("copse/api.ErrTxid", Rows.laid_copse_api_ErrTxid), ("copse/api.ErrOrder", Rows.laid_copse_api_ErrOrder), ("copse/api.ErrKind", Rows.laid_copse_api_ErrKind), ("unicode/utf8.first", Rows.laid_unicode_utf8_first)] = true := by
  unfold Program.listedFits
  rw [noOwnUnsafe]
  kernel_rfl
theorem tie4 : Tryd.prog.laidByTextLater [("unicode/utf8.acceptRanges", Rows.laid_unicode_utf8_acceptRanges), ("copse/api.ErrArg", Rows.laid_copse_api_ErrArg), ("copse/api.ErrText", Rows.laid_copse_api_ErrText), ("copse/api.ErrMany", Rows.laid_copse_api_ErrMany), ("copse/api.ErrShort", Rows.laid_copse_api_ErrShort), ("copse/api.ErrTwice", Rows.laid_copse_api_ErrTwice), ("copse/api.ErrLost", Rows.laid_copse_api_ErrLost), ("copse/api.ErrFull", Rows.laid_copse_api_ErrFull), ("copse/api.ErrDead", Rows.laid_copse_api_ErrDead), ("copse/api.ErrCorrupt", Rows.laid_copse_api_ErrCorrupt), ("copse/api.ErrStatus", Rows.laid_copse_api_ErrStatus), ("copse/api.ErrTxid", Rows.laid_copse_api_ErrTxid), ("copse/api.ErrOrder", Rows.laid_copse_api_ErrOrder), ("copse/api.ErrKind", Rows.laid_copse_api_ErrKind)] [.data, .sentinel, .sentinel, .sentinel, .sentinel, .sentinel, .sentinel, .sentinel, .sentinel, .sentinel, .sentinel, .sentinel, .sentinel, .sentinel] true :=
  Program.laidByTextLater.sub seatTie1 ["unicode/utf8.acceptRanges", "copse/api.ErrArg", "copse/api.ErrText", "copse/api.ErrMany", "copse/api.ErrShort", "copse/api.ErrTwice", "copse/api.ErrLost", "copse/api.ErrFull", "copse/api.ErrDead", "copse/api.ErrCorrupt", "copse/api.ErrStatus", "copse/api.ErrTxid", "copse/api.ErrOrder", "copse/api.ErrKind"] (by kernel_rfl) (by kernel_rfl)
theorem tupleOnly_row_tie : Rows.tupleOnlyRow.laidByTextAt .later Tryd.pinned [.data, .sentinel, .sentinel, .sentinel, .sentinel, .sentinel, .sentinel, .sentinel, .sentinel, .sentinel, .sentinel, .sentinel, .sentinel, .sentinel, .pinned] true :=
  OpenClaim.laidByTextAt_pinned rfl rfl tie4 rfl rfl rfl rfl (fun y hy _e => by
    simp only [Rows.tupleOnlyRow, List.zip_cons_cons, List.zip_nil_right, List.mem_cons, List.mem_nil_iff, or_false] at hy
    rcases hy with rfl | rfl | rfl | rfl | rfl | rfl | rfl | rfl | rfl | rfl | rfl | rfl | rfl | rfl | rfl
    · cases _e
    · cases _e
    · cases _e
    · cases _e
    · cases _e
    · cases _e
    · cases _e
    · cases _e
    · cases _e
    · cases _e
    · cases _e
    · cases _e
    · cases _e
    · cases _e
    · exact ⟨pin_laid_unicode_utf8_first, by kernel_rfl⟩) fits4
theorem tupleUnpacksUpto_row_tie : Rows.tupleUnpacksUptoRow.laidByTextAt .later Tryd.pinned [.sentinel, .sentinel, .sentinel, .sentinel, .sentinel, .sentinel, .sentinel, .sentinel, .sentinel, .sentinel, .sentinel, .sentinel, .sentinel] true :=
  OpenClaim.laidByTextAt_later rfl rfl tie noOwnUnsafe
theorem tuplePrefixUpto_row_tie : Rows.tuplePrefixUptoRow.laidByTextAt .later Tryd.pinned [.data, .sentinel, .sentinel, .pinned] true :=
  OpenClaim.laidByTextAt_pinned rfl rfl tie2 rfl rfl rfl rfl (fun y hy _e => by
    simp only [Rows.tuplePrefixUptoRow, List.zip_cons_cons, List.zip_nil_right, List.mem_cons, List.mem_nil_iff, or_false] at hy
    rcases hy with rfl | rfl | rfl | rfl
    · cases _e
    · cases _e
    · cases _e
    · exact ⟨pin_laid_unicode_utf8_first, by kernel_rfl⟩) fits2
theorem tupleOrderUpto_row_tie : Rows.tupleOrderUptoRow.laidByTextAt .later Tryd.pinned [.data, .sentinel, .sentinel, .pinned] true :=
  OpenClaim.laidByTextAt_pinned rfl rfl tie2 rfl rfl rfl rfl (fun y hy _e => by
    simp only [Rows.tupleOrderUptoRow, List.zip_cons_cons, List.zip_nil_right, List.mem_cons, List.mem_nil_iff, or_false] at hy
    rcases hy with rfl | rfl | rfl | rfl
    · cases _e
    · cases _e
    · cases _e
    · exact ⟨pin_laid_unicode_utf8_first, by kernel_rfl⟩) fits2
theorem tupleBackUpto_row_tie : Rows.tupleBackUptoRow.laidByTextAt .later Tryd.pinned [.data, .sentinel, .sentinel, .sentinel, .pinned] true :=
  OpenClaim.laidByTextAt_pinned rfl rfl tie3 rfl rfl rfl rfl (fun y hy _e => by
    simp only [Rows.tupleBackUptoRow, List.zip_cons_cons, List.zip_nil_right, List.mem_cons, List.mem_nil_iff, or_false] at hy
    rcases hy with rfl | rfl | rfl | rfl | rfl
    · cases _e
    · cases _e
    · cases _e
    · cases _e
    · exact ⟨pin_laid_unicode_utf8_first, by kernel_rfl⟩) fits3
theorem tupleOnlyUpto_row_tie : Rows.tupleOnlyUptoRow.laidByTextAt .later Tryd.pinned [.data, .sentinel, .sentinel, .sentinel, .sentinel, .sentinel, .sentinel, .sentinel, .sentinel, .sentinel, .sentinel, .sentinel, .sentinel, .sentinel, .pinned] true :=
  OpenClaim.laidByTextAt_pinned rfl rfl tie4 rfl rfl rfl rfl (fun y hy _e => by
    simp only [Rows.tupleOnlyUptoRow, List.zip_cons_cons, List.zip_nil_right, List.mem_cons, List.mem_nil_iff, or_false] at hy
    rcases hy with rfl | rfl | rfl | rfl | rfl | rfl | rfl | rfl | rfl | rfl | rfl | rfl | rfl | rfl | rfl
    · cases _e
    · cases _e
    · cases _e
    · cases _e
    · cases _e
    · cases _e
    · cases _e
    · cases _e
    · cases _e
    · cases _e
    · cases _e
    · cases _e
    · cases _e
    · cases _e
    · exact ⟨pin_laid_unicode_utf8_first, by kernel_rfl⟩) fits4
theorem tupleMemoryUpto_row_tie : Rows.tupleMemoryUptoRow.laidByTextAt .later Tryd.pinned [.data, .sentinel, .sentinel, .sentinel, .pinned] true :=
  OpenClaim.laidByTextAt_pinned rfl rfl tie3 rfl rfl rfl rfl (fun y hy _e => by
    simp only [Rows.tupleMemoryUptoRow, List.zip_cons_cons, List.zip_nil_right, List.mem_cons, List.mem_nil_iff, or_false] at hy
    rcases hy with rfl | rfl | rfl | rfl | rfl
    · cases _e
    · cases _e
    · cases _e
    · cases _e
    · exact ⟨pin_laid_unicode_utf8_first, by kernel_rfl⟩) fits3
end Go.Proofs.YthlolfncdjaniaaDoor
