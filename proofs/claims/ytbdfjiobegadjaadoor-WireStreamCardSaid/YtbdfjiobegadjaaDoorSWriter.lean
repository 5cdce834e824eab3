/- The walks of wire's writer: a number, a counted text. -/
import Derived.Test.YtbdfjiobegadjaaDoorSTaker
import Derived.Test.YtbdfjiobegadjaaDoorBuilder
import Derived.Test.YtbdfjiobegadjaaDoorItoa
import Derived.Deep.RegionWith
import Derived.Deep.RegionLaw
import Derived.Lib.AppendIntMem
import Derived.Lib.ItoaLen
namespace Go.Proofs.YtbdfjiobegadjaaDoor.Wr
open Go Go.RowKit Go.Proofs.YtbdfjiobegadjaaDoor.Tk Go.Proofs.YtbdfjiobegadjaaDoor.PWireMemory Go.Proofs.YtbdfjiobegadjaaDoorW.PrintWords Go.Proofs.YtbdfjiobegadjaaDoorW.PrintLast Go.Proofs.YtbdfjiobegadjaaDoorW.PrintMore
set_option linter.unusedVariables false
set_option linter.unusedSectionVars false
set_option linter.unusedSimpArgs false
theorem byteCells_snoc (l : List UInt8) (x : UInt8) : Lib.byteCells (l ++ [x]) = Lib.byteCells l ++ [.int .u8 x.toNat] := by simp [Lib.byteCells]
/-- The table that the numerals' writer reads, from here on. -/
def Tab (B : Nat) (W : World) : Prop := Lib.TabBelow Tryd.prog B W "internal/strconv.uint64pow10" .u64 Lib.pow10Tab
theorem Tab.step {B : Nat} {W W' : World} (h : Tab B W) (hb : Below B W W') : Tab B W' := fun w' hw => h w' (hb.trans hw)
/-- The writer's block holds these bytes. -/
abbrev Wb (B b : Nat) (l : List UInt8) (W : World) : Prop := Lib.IsBuilder 102 5 B b (Lib.byteCells l) W
structure WOk (B b : Nat) (l : List UInt8) (W : World) (e : Ending) (W' : World) : Prop where
  end_ : e = .returned (.tuple #[])
  at_ : Wb B b l W'
  below : Below B W W'
theorem wb_below {B b : Nat} {l : List UInt8} {W W' : World} (h : Wb B b l W) (hb : Below W.heap.size W W') : Wb B b l W' := by
  have one : ∀ p, Lib.BuilderAt 102 5 B b p (Lib.byteCells l) W → Lib.BuilderAt 102 5 B b p (Lib.byteCells l) W' := by
    rintro p ⟨h1, v, h2, h3, h4⟩
    exact ⟨h1, v, (hb.block b (blk_lt h2)).trans h2, own_move h3 (fun k hk => hb.block k (own_lt h3 k hk)), h4⟩
  rcases h with h | h
  · exact .inl (one _ h)
  · exact .inr (one _ h)
theorem wb_size {B b : Nat} {l : List UInt8} {W : World} (h : Wb B b l W) : b < W.heap.size := by
  rcases h with ⟨_, v, h2, _, _⟩ | ⟨_, v, h2, _, _⟩ <;> exact blk_lt h2
theorem itoa_any (n : Int) (h0 : -9223372036854775808 ≤ n) (h1 : n ≤ 9223372036854775807) (w : World) (htab : Lib.TabIs Tryd.prog w "internal/strconv.uint64pow10" .u64 Lib.pow10Tab) :
    Calls Tryd.prog 43 #[.int .i64 n] w fun e w' => e = .returned (.string ⟨(Lib.itoa n).toArray⟩) ∧ Below w.heap.size w w' :=
  (Go.Proofs.Tryd.strconv_Itoa n h0 h1 w htab).mono fun e w' ⟨he, k, os, hw⟩ => ⟨he, by rw [hw]; exact Lib.below_grow w.heap.size w (Nat.le_refl _) k os⟩
theorem write1 (B b : Nat) (l : List UInt8) (c : UInt8) (W : World) (h : Wb B b l W) (hlen : l.length + 1 ≤ 140737488355328) (hB : B ≤ W.heap.size) :
    Calls Tryd.prog 70 #[.pointer (some ⟨b, 0, none⟩), .int .u8 c.toNat] W fun e w' => e = .returned .nilIface ∧ Wb B b (l ++ [c]) w' ∧ Below B W w' :=
  (Bld.writeByte_any 102 B b Bld.bt102 (Lib.byteCells l) c.toNat W h (by rw [Lib.byteCells_length]; exact hlen) hB).mono fun e w' ⟨h1, h2, h3⟩ => ⟨h1, .inr (by rw [byteCells_snoc]; exact h2), h3⟩
theorem writeS (B b : Nat) (l : List UInt8) (s : ByteArray) (W : World) (h : Wb B b l W) (hlen : l.length + s.size ≤ 140737488355328) (hB : B ≤ W.heap.size) :
    Calls Tryd.prog 71 #[.pointer (some ⟨b, 0, none⟩), .string s] W fun e w' => e = .returned (.tuple #[.int .i64 s.size, .nilIface]) ∧ Wb B b (l ++ s.data.toList) w' ∧ Below B W w' :=
  (Bld.writeString_any 102 B b Bld.bt102 (Lib.byteCells l) s W h (by rw [Lib.byteCells_length]; exact hlen) hB).mono fun e w' ⟨h1, h2, h3⟩ => ⟨h1, .inr (by rw [Lib.byteCells_append]; exact h2), h3⟩
set_option maxHeartbeats 1000000 in
set_option maxRecDepth 100000 in
theorem number_any (B b : Nat) (l : List UInt8) (c : UInt8) (n : Int) (W : World) (hT : Tab B W) (h : Wb B b l W) (h0 : -9223372036854775808 ≤ n) (h1 : n ≤ 9223372036854775807)
    (hlen : l.length + 30 ≤ 140737488355328) (hB : B ≤ W.heap.size) :
    Calls Tryd.prog 40 #[.pointer (some ⟨b, 0, none⟩), .int .u8 c.toNat, .int .i64 n] W (WOk B b (l ++ (c :: (Lib.itoa n ++ [13, 10]))) W) := by
  have HT := Lib.hid hT
  have H := Aside0.mk h
  have hln := Lib.itoa_length_le n h0 h1
  clear hT h
  go_enter Tryd.func40, Tryd.ntmps40
  go_wp2_with fail
  refine (write1 B b l c W H.out (by omega) hB).mono ?_
  rintro e w1 ⟨rfl, ha1, hb1⟩
  have HA1 := Aside0.mk ha1
  have HB1 := Aside0.mk hb1
  clear ha1 hb1
  go_wp2_with fail
  have hsz1 : B ≤ w1.heap.size := Nat.le_trans hB HB1.out.size
  go_region_law (first | (go_simp; go_at_call 43; refine (itoa_any n h0 h1 _ (HT.out _ (by exact (below_drew HB1.out)))).mono ?_; rintro e w2 ⟨rfl, hb2⟩; have HB2 := Aside0.mk (show Below w1.heap.size w1 w2 from (below_drew (Below.refl _ w1)).trans hb2); clear hb2) | (go_simp; go_at_call 71; refine (writeS B b (l ++ [c]) ⟨(Lib.itoa n).toArray⟩ _ (wb_below HA1.out HB2.out) (by show (l ++ [c]).length + (Lib.itoa n).toArray.size ≤ _; simp; omega) (Nat.le_trans hsz1 HB2.out.size)).mono ?_; rintro e w3 ⟨rfl, ha3, hb3⟩; have HA3 := Aside0.mk ha3; have HB3 := Aside0.mk (HB1.out.trans ((HB2.out.mono hsz1).trans hb3)); clear ha3 hb3))
  all_goals
    go_wp2_with fail
    refine (writeS B b _ ⟨#[13, 10]⟩ w3 HA3.out (by show ((l ++ [c]) ++ (Lib.itoa n).toArray.toList).length + 2 ≤ _; simp; omega) (Nat.le_trans hB HB3.out.size)).mono ?_
    rintro e w4 ⟨rfl, ha4, hb4⟩
    have HA4 := Aside0.mk ha4
    have HB4 := Aside0.mk (HB3.out.trans hb4)
    clear ha4 hb4
    go_wp2_with fail
    go_end0
    exact ⟨rfl, by have := HA4.out; simpa using this, HB4.out⟩
theorem num36 (B b : Nat) (l : List UInt8) (n : Int) (W : World) (hT : Tab B W) (h : Wb B b l W) (h0 : -9223372036854775808 ≤ n) (h1 : n ≤ 9223372036854775807)
    (hlen : l.length + 30 ≤ 140737488355328) (hB : B ≤ W.heap.size) :
    Calls Tryd.prog 40 #[.pointer (some ⟨b, 0, none⟩), .int .u8 36, .int .i64 n] W (WOk B b (l ++ (36 :: (Lib.itoa n ++ [13, 10]))) W) := number_any B b l 36 n W hT h h0 h1 hlen hB
/-- A counted text's bytes. -/
def bulkB (s : ByteArray) : List UInt8 := (36 :: (Lib.itoa s.size ++ [13, 10])) ++ (s.data.toList ++ [13, 10])
set_option maxHeartbeats 1000000 in
theorem wbulk_any (B b : Nat) (l : List UInt8) (s : ByteArray) (W : World) (hT : Tab B W) (h : Wb B b l W) (hlen : l.length + s.size + 60 ≤ 140737488355328) (hB : B ≤ W.heap.size) :
    Calls Tryd.prog 41 #[.pointer (some ⟨b, 0, none⟩), .string s] W (WOk B b (l ++ bulkB s) W) := by
  have HT := Lib.hid hT
  have H := Aside0.mk h
  have hln := Lib.itoa_length_le s.size (by omega) (by omega)
  clear hT h
  go_enter Tryd.func41, Tryd.ntmps41
  go_wp2_with fail
  refine (num36 B b l s.size W HT.out H.out (by omega) (by omega) (by omega) hB).mono ?_
  rintro e w1 ⟨rfl, ha1, hb1⟩
  have HA1 := Aside0.mk ha1
  have HB1 := Aside0.mk hb1
  clear ha1 hb1
  go_wp2_with fail
  refine (writeS B b _ s w1 HA1.out (by simp; omega) (Nat.le_trans hB HB1.out.size)).mono ?_
  rintro e w2 ⟨rfl, ha2, hb2⟩
  have HA2 := Aside0.mk ha2
  have HB2 := Aside0.mk (HB1.out.trans hb2)
  clear ha2 hb2
  go_wp2_with fail
  refine (writeS B b _ ⟨#[13, 10]⟩ w2 HA2.out (by show _ + 2 ≤ _; simp; omega) (Nat.le_trans hB HB2.out.size)).mono ?_
  rintro e w3 ⟨rfl, ha3, hb3⟩
  have HA3 := Aside0.mk ha3
  have HB3 := Aside0.mk (HB2.out.trans hb3)
  clear ha3 hb3
  go_wp2_with fail
  go_end0
  exact ⟨rfl, by have := HA3.out; simpa [bulkB] using this, HB3.out⟩
end Go.Proofs.YtbdfjiobegadjaaDoor.Wr
