/- The two refusals that Decode may come to. -/
import Derived.Test.YtbdfjiobegadjaaDoorTaker8
namespace Go.Proofs.YtbdfjiobegadjaaDoor.Wr
open Go Go.RowKit Go.Proofs.YtbdfjiobegadjaaDoor.Tk Go.Proofs.YtbdfjiobegadjaaDoor.PWireMemory Go.Proofs.YtbdfjiobegadjaaDoorW.PrintWords Go.Proofs.YtbdfjiobegadjaaDoorW.PrintLast Go.Proofs.YtbdfjiobegadjaaDoorW.PrintMore
set_option linter.unusedVariables false
set_option linter.unusedSectionVars false
set_option linter.unusedSimpArgs false
/-- The refusals that Decode may come to. -/
def two {α : Type} : Res α → Prop
  | .ok _ _ => True
  | .no k => k = 1 ∨ k = 3
theorem two_as {α β : Type} {R : Res α} (x : β) (h : two R) : two (R.as x) := by cases R <;> exact h
theorem two_map {α β : Type} {R : Res α} (f : α → β) (h : two R) : two (R.map f) := by cases R <;> exact h
theorem expect_two (s : ByteArray) : ∀ (l : List UInt8) (i : Nat), two (expect s l i)
  | [], i => by simp only [expect]; exact trivial
  | c :: l, i => by
    rw [expect]
    split
    · split
      · exact expect_two s l _
      · exact .inl rfl
    · exact .inr rfl
theorem digs_two (s : ByteArray) (most : Nat) : ∀ (f n : Nat) (first : Bool) (i : Nat), two (digs s most f n first i)
  | 0, _, _, _ => .inr rfl
  | f + 1, n, first, i => by
    rw [digs]
    split
    · exact two_as _ (expect_two s _ _)
    · split
      · exact .inl rfl
      · exact digs_two s most f _ _ _
theorem lin_two (s : ByteArray) : ∀ (f m i : Nat), two (lin s f m i)
  | 0, _, _ => .inr rfl
  | f + 1, m, i => by
    rw [lin]
    split
    · exact two_as _ (expect_two s _ _)
    · split
      · exact .inl rfl
      · exact lin_two s f _ _
theorem numS_two (s : ByteArray) (i : Nat) : two (numS s i) := by
  unfold numS
  split
  · exact .inr rfl
  · split
    · exact two_map _ (digs_two _ _ _ _ _ _)
    · split
      · exact .inr rfl
      · split
        · exact .inl rfl
        · exact two_map _ (digs_two _ _ _ _ _ _)
theorem bulkS_two (s : ByteArray) (i : Nat) : two (bulkS s i) := by
  unfold bulkS
  split
  · exact .inr rfl
  · split
    · exact two_as _ (expect_two s _ _)
    · have := digs_two s 65536 (s.size - i) 0 true i
      split
      · rename_i k hk; rw [hk] at this; exact this
      · split
        · exact .inr rfl
        · exact two_as _ (expect_two s _ _)
theorem itemsS_two {f : Nat → Res S24} (hf : ∀ j, two (f j)) : ∀ (n j : Nat), two (itemsS f n j)
  | 0, j => by rw [itemsS]; exact trivial
  | n + 1, j => by
    rw [itemsS]
    have := hf j
    split
    · rename_i k hk; rw [hk] at this; exact this
    · exact two_map _ (itemsS_two hf n _)
theorem listS_two {s : ByteArray} {f : Nat → Res S24} (hf : ∀ j, two (f j)) (i : Nat) : two (listS s f i) := by
  unfold listS
  split
  · exact .inr rfl
  · have := digs_two s 2000 (s.size - i) 0 true i
    split
    · rename_i k hk; rw [hk] at this; exact this
    · exact two_map _ (itemsS_two hf _ _)
theorem headS_two {s : ByteArray} {f : Nat → Res S24} (hf : ∀ j, two (f j)) (i : Nat) : two (headS s f i) := by
  unfold headS
  split
  · exact .inr rfl
  · split
    · exact two_map _ (lin_two _ _ _ _)
    · split
      · exact two_map _ (lin_two _ _ _ _)
      · split
        · exact two_map _ (numS_two _ _)
        · split
          · exact bulkS_two _ _
          · split
            · exact hf _
            · exact .inl rfl
theorem ansS_two (s : ByteArray) : ∀ (d j : Nat), two (ansS s d j)
  | 0, j => headS_two (f := fun _ => .no 1) (fun _ => Or.inl rfl) j
  | d + 1, j => headS_two (fun _ => listS_two (ansS_two s d) _) j
end Go.Proofs.YtbdfjiobegadjaaDoor.Wr
