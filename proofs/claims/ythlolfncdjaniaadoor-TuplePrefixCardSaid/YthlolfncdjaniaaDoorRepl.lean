/- strings.ReplaceAll at a text's zeros: behind each a 255. -/
import Derived.Test.YthlolfncdjaniaaDoorBuilder
import Derived.Test.YthlolfncdjaniaaDoorLib
import Derived.Test.YthlolfncdjaniaaDoorPTuplePrefixx0
import Derived.IntWalk
import Derived.WalkSpells
import Derived.WalkLawsBesides
import Derived.WalkSmall
import Derived.Lib.Hide
import Derived.Lib.Strings
import Derived.Lib.IndexBytes
import Derived.Lib.IndexLaws
import Derived.Lib.SlicesS
import Derived.Outline
import Derived.Deep.RegionWith
import Derived.Deep.RegionLaw
import Derived.BigQuiet
import Derived.LoopTactic
namespace Go.Proofs.YthlolfncdjaniaaDoor.Tu
open Go Go.RowKit Go.Proofs.YthlolfncdjaniaaDoor.PTuplePrefix Go.Proofs.YthlolfncdjaniaaDoorW.PrintWords Go.Proofs.YthlolfncdjaniaaDoorW.PrintLast Go.Proofs.YthlolfncdjaniaaDoorW.PrintMore
set_option linter.unusedVariables false
set_option linter.unusedSectionVars false
set_option linter.unusedSimpArgs false
/-- The writer's block holds these bytes. -/
abbrev Wb (B b : Nat) (l : List UInt8) (W : World) : Prop := Lib.IsBuilder 70 5 B b (Lib.byteCells l) W
structure WOk (B b : Nat) (l : List UInt8) (W : World) (e : Ending) (W' : World) : Prop where
  end_ : e = .returned (.tuple #[])
  at_ : Wb B b l W'
  below : Below B W W'
theorem wb_below {B b : Nat} {l : List UInt8} {W W' : World} (h : Wb B b l W) (hb : Below W.heap.size W W') : Wb B b l W' := by
  have one : ∀ p, Lib.BuilderAt 70 5 B b p (Lib.byteCells l) W → Lib.BuilderAt 70 5 B b p (Lib.byteCells l) W' := by
    rintro p ⟨h1, v, h2, h3, h4⟩
    exact ⟨h1, v, (hb.block b (blk_lt h2)).trans h2, own_move h3 (fun k hk => hb.block k (own_lt h3 k hk)), h4⟩
  rcases h with h | h
  · exact .inl (one _ h)
  · exact .inr (one _ h)
theorem wb_size {B b : Nat} {l : List UInt8} {W : World} (h : Wb B b l W) : b < W.heap.size := by
  rcases h with ⟨_, v, h2, _, _⟩ | ⟨_, v, h2, _, _⟩ <;> exact blk_lt h2
theorem wb_new (W : World) : Wb W.heap.size W.heap.size [] (W.alloc (.cells #[.pointer none, .slice none 0 0] 70)) := by
  refine .inl ⟨Nat.le_refl _, .slice none 0 0, (MapKept.heap_alloc W _).1, own_nil _ _ _ _, by simp [Value.ownBlock]⟩
theorem byteCells_snoc (l : List UInt8) (x : UInt8) : Lib.byteCells (l ++ [x]) = Lib.byteCells l ++ [.int .u8 x.toNat] := by simp [Lib.byteCells]
theorem write1 (B b : Nat) (l : List UInt8) (c : UInt8) (W : World) (h : Wb B b l W) (hlen : l.length + 1 ≤ 140737488355328) (hB : B ≤ W.heap.size) :
    Calls Tryd.prog 44 #[.pointer (some ⟨b, 0, none⟩), .int .u8 c.toNat] W fun e w' => e = .returned .nilIface ∧ Wb B b (l ++ [c]) w' ∧ Below B W w' :=
  (Bld.writeByte_any 70 B b Bld.bt (Lib.byteCells l) c.toNat W h (by rw [Lib.byteCells_length]; exact hlen) hB).mono fun e w' ⟨h1, h2, h3⟩ => ⟨h1, .inr (by rw [byteCells_snoc]; exact h2), h3⟩
theorem writeS (B b : Nat) (l : List UInt8) (s : ByteArray) (W : World) (h : Wb B b l W) (hlen : l.length + s.size ≤ 140737488355328) (hB : B ≤ W.heap.size) :
    Calls Tryd.prog 45 #[.pointer (some ⟨b, 0, none⟩), .string s] W fun e w' => e = .returned (.tuple #[.int .i64 s.size, .nilIface]) ∧ Wb B b (l ++ s.data.toList) w' ∧ Below B W w' :=
  (Bld.writeString_any 70 B b Bld.bt (Lib.byteCells l) s W h (by rw [Lib.byteCells_length]; exact hlen) hB).mono fun e w' ⟨h1, h2, h3⟩ => ⟨h1, .inr (by rw [Lib.byteCells_append]; exact h2), h3⟩
theorem wstring (B b : Nat) (l : List UInt8) (W : World) (h : Wb B b l W) (hB : B ≤ W.heap.size) :
    Calls Tryd.prog 35 #[.pointer (some ⟨b, 0, none⟩)] W fun e w' => e = .returned (.string ⟨l.toArray⟩) ∧ Below B W w' := Bld.string_any 70 B b l W h hB
/-! #### plain -/
def escB (c : UInt8) : List UInt8 := if c = 0 then [0, 255] else [c]
/-- A text's bytes, a 255 behind each 0. -/
def esc (l : List UInt8) : List UInt8 := l.flatMap escB
theorem esc_app (a b : List UInt8) : esc (a ++ b) = esc a ++ esc b := by simp [esc]
theorem esc_no : ∀ {l : List UInt8}, l.count 0 = 0 → esc l = l
  | [], _ => rfl
  | c :: l, h => by
    rw [List.count_cons] at h
    have hc : ¬ c = 0 := fun e => by subst e; simp at h
    have hl : l.count 0 = 0 := by omega
    show escB c ++ esc l = c :: l
    rw [esc_no hl, escB, if_neg hc]
    rfl
theorem esc_len (l : List UInt8) : (esc l).length = l.length + l.count 0 := by
  induction l with
  | nil => rfl
  | cons c l ih =>
    show (escB c ++ esc l).length = _
    rw [List.length_append, ih, List.count_cons, List.length_cons]
    unfold escB
    by_cases hc : c = 0
    · subst hc; simp; omega
    · have hb : (c == 0) = false := by simpa using hc
      rw [if_neg hc, hb]; simp; omega
theorem count_take_no {l : List UInt8} {o : Nat} (h : ∀ k, k < o → l[k]? ≠ some 0) : (l.take o).count 0 = 0 := by
  rw [List.count_eq_zero]
  intro hm
  obtain ⟨k, hk⟩ := List.getElem?_of_mem hm
  rw [List.getElem?_take] at hk
  split at hk
  · rename_i hlt; exact h k hlt hk
  · cases hk
theorem drop_at {l : List UInt8} {o : Nat} (h : l[o]? = some 0) : l = l.take o ++ 0 :: l.drop (o + 1) := by
  obtain ⟨hlt, he⟩ := List.getElem?_eq_some_iff.1 h
  conv => lhs; rw [← List.take_append_drop o l, List.drop_eq_getElem_cons hlt, he]
/-- The next zero. -/
theorem next_zero {l : List UInt8} (h : l.count 0 ≠ 0) : ∃ o : Nat, Lib.indexByte l 0 = o ∧ o < l.length ∧ esc (l.take (o + 1)) = l.take o ++ [0, 255] ∧ (l.drop (o + 1)).count 0 + 1 = l.count 0 := by
  have hge := Lib.indexByte_ge l 0
  by_cases hn : Lib.indexByte l 0 = -1
  · exfalso
    have hno := Lib.indexByte_none hn
    apply h
    rw [List.count_eq_zero]
    intro hm
    obtain ⟨k, hk⟩ := List.getElem?_of_mem hm
    exact hno k hk
  · obtain ⟨o, ho⟩ : ∃ o : Nat, Lib.indexByte l 0 = o := ⟨(Lib.indexByte l 0).toNat, by omega⟩
    obtain ⟨h0, h1⟩ := Lib.indexByte_some ho
    have hlt := (List.getElem?_eq_some_iff.1 h0).1
    have hc := count_take_no h1
    refine ⟨o, ho, hlt, ?_, ?_⟩
    · rw [List.take_add_one, h0, esc_app, esc_no hc]; rfl
    · conv => rhs; rw [drop_at h0, List.count_append, hc, List.count_cons]
      simp
theorem piece (s : ByteArray) (a b : Nat) : (s.extract a b).data.toList = (s.data.toList.take b).drop a := by
  rw [ByteArray.data_extract, Array.toList_extract, List.extract_eq_take_drop, List.drop_take]
theorem slen (s : ByteArray) : s.data.toList.length = s.size := by simp
theorem adds (st o n : Nat) (h : st + o + 1 ≤ n) (hn : n ≤ 1000000000) : (st : Int) ≤ (st : Int) + (o : Int) ∧ (st : Int) + (o : Int) ≤ (n : Int) ∧ wrap64 ((st : Int) + (o : Int)) = (st : Int) + o ∧ wrap64 ((st : Int) + (o : Int) + 1) = (st : Int) + o + 1 :=
  ⟨by omega, by omega, IntWalk.wrap64_in _ ⟨by omega, by omega⟩, IntWalk.wrap64_in _ ⟨by omega, by omega⟩⟩
set_option maxHeartbeats 2000000 in
set_option maxRecDepth 100000 in
theorem replace_any (s : ByteArray) (hs : s.size ≤ 1000000000) (W : World) :
    Calls Tryd.prog 57 #[.string s, .string ⟨#[0]⟩, .string ⟨#[0, 255]⟩, .int .i64 (-1)] W fun e w' => e = .returned (.string ⟨(esc s.data.toList).toArray⟩) ∧ Below W.heap.size W w' := by
  have hl := slen s
  have hcl : s.data.toList.count 0 ≤ s.size := by rw [← hl]; exact List.count_le_length
  have hne : ((⟨#[0]⟩ : ByteArray).toList == (⟨#[0, 255]⟩ : ByteArray).toList) = false := (Lib.bytes_beq_false_iff _ _).2 (by decide)
  go_enter Tryd.func57, Tryd.ntmps57
  go_wp2_with fail
  go_at_call 52
  refine (Tryd.strings_Count_one s 0 W).mono ?_
  rintro _ w1 ⟨rfl, rfl⟩
  unfold Lib.countByte
  obtain ⟨n, hn⟩ : ∃ n, s.data.toList.count 0 = n := ⟨_, rfl⟩
  rw [hn]
  by_cases hz : n = 0
  · have he : esc s.data.toList = s.data.toList := esc_no (hn.trans hz)
    have hz' : ((n : Int) == 0) = true := by rw [hz]; rfl
    have HE := Lib.hid he
    clear he hn hcl hz
    go_wp2_with fail
    go_ret
    refine ⟨?_, Below.refl _ _⟩
    show Ending.returned (.string s) = _
    rw [HE.out, Array.toArray_toList]
  · have hz' : ((n : Int) == 0) = false := by rw [beq_eq_false_iff_ne]; omega
    have HN := Lib.hid hn
    have hw1 : wrap64 (n : Int) = n := IntWalk.wrap64_in _ (by omega)
    have hw2 : wrap64 ((s.size : Int) + (n : Int)) = (s.size : Int) + n := IntWalk.wrap64_in _ (by omega)
    have hns : n ≤ s.size := by omega
    clear hn hz hcl
    have HW := Aside0.mk (wb_new w1)
    have HB0 := Aside0.mk (below_alloc (Below.refl w1.heap.size w1) (.cells #[.pointer none, .slice none 0 0] 70))
    go_wp2_with fail
    go_at_call 68
    have hgr := Tryd.Builder_Grow_fresh w1.heap.size w1.heap.size (s.size + n) (w1.alloc (.cells #[.pointer none, .slice none 0 0] 70)) (Nat.le_refl _) (MapKept.heap_alloc w1 _).1 (by simp) (by omega)
    rw [Int.natCast_add] at hgr
    refine hgr.mono ?_
    rintro _ w2 ⟨rfl, h2, hb2⟩
    have HW2 := Aside0.mk (show Wb w1.heap.size w1.heap.size [] w2 from .inr h2)
    have HB2 := Aside0.mk (HB0.out.trans hb2)
    clear h2 hb2 hw1 hw2 hgr HW HB0
    go_wp2_with fail
    go_loopw [11, 53] (fun v11 v53 W' => ∃ i st : Nat, v53 = .int .i64 i ∧ v11 = .int .i64 st ∧ i ≤ n ∧ st ≤ s.size ∧ Hid ((s.data.toList.drop st).count 0 + i = n) ∧ Aside0 (Wb w1.heap.size w1.heap.size (esc (s.data.toList.take st)) W') ∧ Aside0 (Below w1.heap.size w1 W')) (fun _ v53 _ => n - (intOf v53).toNat)
    case atStart => exact ⟨0, 0, rfl, rfl, by omega, by omega, Lib.hid (by rw [List.drop_zero]; exact HN.out), HW2, HB2⟩
    case round =>
      obtain ⟨i, st, rfl, rfl, hi, hst, hc, HWr, HBr⟩ := hrel
      have hbs := HBr.out.size
      by_cases hlt : i < n
      · have hlt' : (i : Int) < (n : Int) := by omega
        obtain ⟨o, ho, holt, he, hcn⟩ := next_zero (l := s.data.toList.drop st) (by have := hc.out; omega)
        rw [List.length_drop, hl] at holt
        have hst' : (st : Int) ≤ (s.size : Int) := by omega
        have hp1 : (s.extract st s.size).data.toList = s.data.toList.drop st := by rw [piece, List.take_of_length_le (by omega)]
        have hp2 : (s.extract st (st + o)).data.toList = (s.data.toList.drop st).take o := by rw [piece, List.drop_take]; congr 1; omega
        have hes : esc (s.data.toList.take (st + o + 1)) = esc (s.data.toList.take st) ++ ((s.data.toList.drop st).take o ++ [0, 255]) := by
          rw [Nat.add_assoc, List.take_add, esc_app, he]
        have hso : st + o + 1 ≤ s.size := by omega
        have HO := Lib.hid ho
        have HC := Lib.hid (show (s.data.toList.drop (st + o + 1)).count 0 + (i + 1) = n by rw [Nat.add_assoc, ← List.drop_drop]; have := hc.out; omega)
        have HP1 := Lib.hid hp1
        have HP2 := Lib.hid hp2
        have HES := Lib.hid hes
        have hle : (esc (s.data.toList.take st)).length ≤ 2 * s.size := by
          rw [esc_len, List.length_take, hl]
          have : (s.data.toList.take st).count 0 ≤ (s.data.toList.take st).length := List.count_le_length
          rw [List.length_take, hl] at this
          omega
        have hz2 : (s.extract st (st + o)).size ≤ s.size := by rw [ByteArray.size_extract]; omega
        clear ho hcn he hp1 hp2 hes holt
        obtain ⟨h5, h6, hw3, hw4⟩ := adds st o s.size hso hs
        go_wp2_with fail
        go_at_call 64
        refine (Tryd.strings_Index_one (s.extract st s.size) 0 _).mono ?_
        rintro _ w3 ⟨rfl, rfl⟩
        rw [HP1.out, HO.out]
        go_wp2_with fail
        refine (writeS w1.heap.size w1.heap.size _ (s.extract st (st + o)) w3 HWr.out (by omega) hbs).mono ?_
        rintro _ w4 ⟨rfl, ha4, hb4⟩
        rw [HP2.out] at ha4
        have HW4 := Aside0.mk ha4
        have HB4 := Aside0.mk (HBr.out.trans hb4)
        have hbs4 := HB4.out.size
        have hl4 : (esc (s.data.toList.take st) ++ (s.data.toList.drop st).take o).length ≤ 3 * s.size := by rw [List.length_append, List.length_take, List.length_drop, hl]; omega
        clear ha4 hb4
        go_wp2_with fail
        refine (writeS w1.heap.size w1.heap.size _ ⟨#[0, 255]⟩ w4 HW4.out (by show _ + 2 ≤ _; omega) hbs4).mono ?_
        rintro _ w5 ⟨rfl, ha5, hb5⟩
        have HW5 := Aside0.mk (show Wb w1.heap.size w1.heap.size (esc (s.data.toList.take (st + o + 1))) w5 by rw [HES.out, ← List.append_assoc]; exact ha5)
        have HB5 := Aside0.mk (HB4.out.trans hb5)
        clear ha5 hb5
        go_wp2_with fail
        go_roundw
        case rel => exact ⟨i + 1, st + o + 1, by go_num, by go_num, by omega, by omega, HC, HW5, HB5⟩
        case measure => simp [intOf]; omega
      · have hlt' : ¬ (i : Int) < (n : Int) := by omega
        have hst' : (st : Int) ≤ (s.size : Int) := by omega
        have hp1 : (s.extract st s.size).data.toList = s.data.toList.drop st := by rw [piece, List.take_of_length_le (by omega)]
        have hd : esc (s.data.toList.drop st) = s.data.toList.drop st := esc_no (by have := hc.out; omega)
        have hall : esc (s.data.toList.take st) ++ (s.extract st s.size).data.toList = esc s.data.toList := by
          rw [hp1, ← hd, ← esc_app, List.take_append_drop]
        have hle : (esc (s.data.toList.take st)).length ≤ 2 * s.size := by
          rw [esc_len, List.length_take, hl]
          have : (s.data.toList.take st).count 0 ≤ (s.data.toList.take st).length := List.count_le_length
          rw [List.length_take, hl] at this
          omega
        have hz2 : (s.extract st s.size).size ≤ s.size := by rw [ByteArray.size_extract]; omega
        have HA := Lib.hid hall
        clear hp1 hd hall
        go_wp2_with fail
        refine (writeS w1.heap.size w1.heap.size _ (s.extract st s.size) wr HWr.out (by omega) hbs).mono ?_
        rintro _ w4 ⟨rfl, ha4, hb4⟩
        rw [HA.out] at ha4
        have HW4 := Aside0.mk ha4
        have HB4 := Aside0.mk (HBr.out.trans hb4)
        have hbs4 := HB4.out.size
        clear ha4 hb4
        go_wp2_with fail
        refine (wstring w1.heap.size w1.heap.size _ w4 HW4.out hbs4).mono ?_
        rintro _ w5 ⟨rfl, hb5⟩
        have HB5 := Aside0.mk (HB4.out.trans hb5)
        clear hb5
        go_wp2_with fail
        go_ret
        exact ⟨rfl, HB5.out⟩
theorem replaceAll_any (s : ByteArray) (hs : s.size ≤ 1000000000) (W : World) :
    Calls Tryd.prog 46 #[.string s, .string ⟨#[0]⟩, .string ⟨#[0, 255]⟩] W fun e w' => e = .returned (.string ⟨(esc s.data.toList).toArray⟩) ∧ Below W.heap.size W w' := by
  go_enter Tryd.func46, Tryd.ntmps46
  go_wp2_with fail
  go_at_call 57
  refine (replace_any s hs W).mono ?_
  rintro _ w1 ⟨rfl, hb⟩
  go_wp2_with fail
  go_ret
  exact ⟨rfl, hb⟩
end Go.Proofs.YthlolfncdjaniaaDoor.Tu
