/- The walks of wire's taker: a line. -/
import Derived.Test.YtbdfjiobegadjaaDoorTaker3
import Derived.Test.YtbdfjiobegadjaaDoorBuilder
namespace Go.Proofs.YtbdfjiobegadjaaDoor.Tk
open Go Go.RowKit Go.Proofs.YtbdfjiobegadjaaDoor.PWireMemory Go.Proofs.YtbdfjiobegadjaaDoorW.PrintWords Go.Proofs.YtbdfjiobegadjaaDoorW.PrintLast Go.Proofs.YtbdfjiobegadjaaDoorW.PrintMore
set_option linter.unusedVariables false
set_option linter.unusedSectionVars false
set_option linter.unusedSimpArgs false
/-- A line's bytes up to CR: so many bytes are left, m so far; its answer: where the CR stands. -/
def lin (s : ByteArray) : Nat → Nat → Nat → Res Nat
  | 0, _, _ => .no 3
  | f + 1, m, i =>
    if bt s i = 13 then (expect s [10] (i + 1)).as i
    else if bt s i < 32 ∨ bt s i = 127 ∨ m = 4096 then .no 1
    else lin s f (m + 1) (i + 1)
def bytesIn (s : ByteArray) (i j : Nat) : List UInt8 := (s.extract i j).data.toList
theorem bytesIn_self (s : ByteArray) (i : Nat) : bytesIn s i i = [] := by simp [bytesIn]
theorem bytesIn_snoc (s : ByteArray) (i j : Nat) (h : i ≤ j) (hj : j < s.size) : bytesIn s i (j + 1) = bytesIn s i j ++ [s[j]] := by
  have hl : j < s.data.toList.length := by simpa using hj
  simp only [bytesIn, ByteArray.data_extract, Array.toList_extract, List.extract_eq_take_drop]
  rw [show j + 1 - i = (j - i) + 1 from by omega, List.take_add_one, List.getElem?_drop, show i + (j - i) = j from by omega, List.getElem?_eq_getElem hl]
  rfl
theorem bytesIn_length (s : ByteArray) (i j : Nat) (hj : j ≤ s.size) : (bytesIn s i j).length = j - i := by
  simp [bytesIn]; omega
theorem bytes_back (s : ByteArray) (i j : Nat) : (⟨(bytesIn s i j).toArray⟩ : ByteArray) = s.extract i j := by unfold bytesIn; rw [Array.toArray_toList]
theorem byteCells_snoc (l : List UInt8) (x : UInt8) : Lib.byteCells (l ++ [x]) = Lib.byteCells l ++ [.int .u8 x.toNat] := by simp [Lib.byteCells]
theorem builder_only {T B b bb : Nat} {bs : List Value} {W W' : World} (h : Lib.IsBuilder T 5 B bb bs W) (ho : Only b W W') (hb : b < B) : Lib.IsBuilder T 5 B bb bs W' := by
  have one : ∀ p, Lib.BuilderAt T 5 B bb p bs W → Lib.BuilderAt T 5 B bb p bs W' := by
    rintro p ⟨h1, v, h2, h3, h4⟩
    have hlt : bb < W.heap.size := blk_lt h2
    refine ⟨h1, v, (ho.keep bb hlt (by omega)).trans h2, own_move h3 (fun k hk => ?_), h4⟩
    have := own_base h3 k hk
    exact ho.keep k (own_lt h3 k hk) (by omega)
  rcases h with h | h
  · exact .inl (one _ h)
  · exact .inr (one _ h)
inductive Lin (b : Nat) (s : ByteArray) (ad : Nat → Addr) (R : Res Nat) (i0 bb : Nat) (W : World) : Prop
  | good (i : Nat) (h0 : i0 ≤ i) (hi : i ≤ s.size) (hm : i - i0 ≤ 4096) (h : Good W b s i) (e : lin s (s.size - i) (i - i0) i = R) (hB : Lib.IsBuilder 100 5 bb bb (Lib.byteCells (bytesIn s i0 i)) W) : Lin b s ad R i0 bb W
  | bad (k : Nat) (h : Bad W b ad k) (e : R = .no k) : Lin b s ad R i0 bb W
structure LineOk (b : Nat) (s : ByteArray) (ad : Nat → Addr) (i : Nat) (R : Res Nat) (W : World) (e : Ending) (W' : World) : Prop where
  end_ : ∃ t : ByteArray, t.size ≤ 4096 ∧ e = .returned (.string t) ∧ ∀ a j, R = .ok a j → t = s.extract i a
  at_ : Leaves W' b s ad R
  only : Only b W W'
theorem Only.of_below_lt {b bb : Nat} {W W1 W2 : World} (h : Only b W W1) (k : Below bb W1 W2) (hb : W.heap.size ≤ bb) : Only b W W2 :=
  ⟨k.os.trans h.os, k.tape.trans h.tape, k.output.trans h.output, Nat.le_trans h.size k.size, fun i hi hb' => (k.block i (by omega)).trans (h.keep i hi hb')⟩
theorem Only.alloc {b : Nat} {a c : World} (h : Only b a c) (o : Obj) : Only b a (c.alloc o) := h.of_below_lt ((Below.refl _ _).alloc (Nat.le_refl _) o) h.size
theorem good_alloc {W : World} {b : Nat} {s : ByteArray} {i : Nat} (h : Good W b s i) (o : Obj) : Good (W.alloc o) b s i := ((MapKept.heap_alloc W o).2 b (blk_lt h)).trans h
theorem bad_alloc {W : World} {b k : Nat} {ad : Nat → Addr} (h : Bad W b ad k) (o : Obj) : Bad (W.alloc o) b ad k := by
  obtain ⟨r, h⟩ := h
  exact ⟨r, ((MapKept.heap_alloc W o).2 b (blk_lt h)).trans h⟩
theorem good_below {W W' : World} {b bb : Nat} {s : ByteArray} {i : Nat} (h : Good W b s i) (k : Below bb W W') (hb : b < bb) : Good W' b s i := (k.block b hb).trans h
theorem leaves_below {α : Type} {W W' : World} {b bb : Nat} {s : ByteArray} {ad : Nat → Addr} {R : Res α} (h : Leaves W b s ad R) (k : Below bb W W') (hb : b < bb) : Leaves W' b s ad R := by
  cases R with
  | ok a i => exact (k.block b hb).trans h
  | no j => obtain ⟨r, h⟩ := h; exact ⟨r, (k.block b hb).trans h⟩
set_option maxHeartbeats 2000000 in
theorem line_any (W : World) (N b : Nat) (s : ByteArray) (ad : Nat → Addr) (i0 : Nat) (hi0 : i0 ≤ s.size) (R : Res Nat) (hs : s.size ≤ 140738562097152) (hN : N ≤ b) (hE : EN N W ad)
    (h : (Good W b s i0 ∧ lin s (s.size - i0) 0 i0 = R) ∨ ∃ k, Bad W b ad k ∧ R = .no k) :
    Calls Tryd.prog 51 #[.pointer (some ⟨b, 0, none⟩)] W (LineOk b s ad i0 R W) := by
  have hbl : b < W.heap.size := by
    rcases h with ⟨h, _⟩ | ⟨k, ⟨r, h⟩, _⟩
    · exact blk_lt h
    · exact blk_lt h
  have HE := Aside0.mk hE
  have HU : Aside0 (Lin b s ad R i0 W.heap.size (W.alloc (.cells #[.pointer none, .slice none 0 0] 100))) := by
    refine ⟨?_⟩
    rcases h with ⟨h, e⟩ | ⟨k, h, e⟩
    · refine .good i0 (Nat.le_refl _) hi0 (by omega) (good_alloc h _) (by rw [Nat.sub_self]; exact e) ?_
      rw [bytesIn_self]
      exact .inl ⟨Nat.le_refl _, .slice none 0 0, (MapKept.heap_alloc W _).1, own_nil _ _ _ _, by simp [Value.ownBlock]⟩
    · exact .bad k (bad_alloc h _) e
  clear hE h
  go_enter Tryd.func51, Tryd.ntmps51
  go_wp2_with fail
  go_loopw [4] (fun _ W' => Aside0 (Lin b s ad R i0 W.heap.size W') ∧ Aside0 (Only b W W')) (fun _ W' => mz W' b)
  case atStart => exact ⟨HU, ⟨(Only.refl _ _).alloc _⟩⟩
  case round =>
    clear HU
    obtain ⟨HU, HO⟩ := hrel
    have HE' := Aside0.mk (HE.out.only HO.out hN (Nat.le_of_lt hbl))
    have hU := HU.out
    clear HU
    cases hU with
    | bad k h e =>
      obtain ⟨r, h⟩ := h
      have H := Aside0.mk h
      have HR := Aside0.mk e
      clear h e
      go_wp2_with (go_at_call 50; refine (byte_bad _ b r ad k H.out).mono ?_; rintro e w2 ⟨rfl, ha2, ho2⟩; obtain ⟨g0, g1, _, _⟩ := At.cells ha2; have HA2 := Aside0.mk ha2; have HO2 := Aside0.mk ho2; clear ha2 ho2)
      go_ret
      exact ⟨⟨⟨#[]⟩, by decide, rfl, fun a j he => by rw [HR.out] at he; cases he⟩, by rw [HR.out]; exact ⟨r, HA2.out⟩, HO.out.trans HO2.out⟩
    | good i h0 hi hm h e hB =>
      have HB := Aside0.mk hB
      have H := Aside0.mk h
      clear hB h
      by_cases hlt : i < s.size
      · obtain ⟨f, hf⟩ : ∃ f, s.size - i = f + 1 := ⟨s.size - i - 1, by omega⟩
        have hbt : bt s (i : Int) = ((s[i]).toNat : Int) := by rw [← bt_at s (i : Int) (by simpa using hlt)]; rfl
        rw [hf, lin, hbt] at e
        have hr := (s[i]).toNat_lt
        have HF := Aside0.mk hf
        clear hf hbt
        by_cases h13 : ((s[i]).toNat : Int) = 13
        · rw [if_pos h13] at e
          have HR := Aside0.mk e.symm
          have h13b : (((s[i]).toNat : Int) == 13) = true := beq_iff_eq.mpr h13
          clear e h13
          go_wp2_with (first | (go_at_call 50; refine (byte_some _ b s i hlt H.out).mono ?_; rintro e w1 ⟨rfl, ha1, ho1⟩; obtain ⟨g0, g1, _, _⟩ := At.cells ha1; have HA1 := Aside0.mk ha1; have HO1 := Aside0.mk ho1; have HB1 := Aside0.mk (builder_only HB.out ho1 hbl); clear ha1 ho1) | (go_at_call 73; refine (these_any _ N b s ⟨#[10]⟩ ad (i + 1) (expect s [10] (i + 1)) (by decide) hN (HE'.out.only HO1.out hN (by have := HO.out.size; omega)) (.good HA1.out rfl)).mono ?_; rintro e w2 ⟨rfl, ha2, ho2⟩; have HA2 := Aside0.mk ha2; have HO2 := Aside0.mk ho2; have HB2 := Aside0.mk (builder_only HB1.out ho2 hbl); clear ha2 ho2) | (go_at_call 42; refine (Bld.string_any 100 _ _ _ _ HB2.out (by have := HO.out.size; have := HO1.out.size; have := HO2.out.size; omega)).mono ?_; rintro e w3 ⟨rfl, hb3⟩; have HB3 := Aside0.mk hb3; clear hb3))
          go_ret
          refine ⟨⟨_, ?_, rfl, fun a j he => ?_⟩, ?_, ((HO.out.trans HO1.out).trans HO2.out).of_below_lt HB3.out (Nat.le_refl _)⟩
          · have := bytesIn_length s i0 i hi
            simp only [ByteArray.size, List.size_toArray]
            omega
          · rw [HR.out] at he
            cases hx : expect s [10] (i + 1) with
            | ok u j' => rw [hx] at he; cases he; exact bytes_back s i0 i
            | no k => rw [hx] at he; cases he
          · refine leaves_below ?_ HB3.out hbl
            rw [HR.out]
            have := HA2.out
            cases hx : expect s [10] (i + 1) with
            | ok u j' => rw [hx] at this; exact this
            | no k => rw [hx] at this; exact this
        · rw [if_neg h13] at e
          have h13b : (((s[i]).toNat : Int) == 13) = false := beq_eq_false_iff_ne.mpr h13
          clear h13
          by_cases hlo : ((s[i]).toNat : Int) < 32
          · rw [if_pos (.inl hlo)] at e
            have HR := Aside0.mk e.symm
            clear e
            go_wp2_with (first | (go_at_call 50; refine (byte_some _ b s i hlt H.out).mono ?_; rintro e w1 ⟨rfl, ha1, ho1⟩; obtain ⟨g0, g1, _, _⟩ := At.cells ha1; have HA1 := Aside0.mk ha1; have HO1 := Aside0.mk ho1; have HB1 := Aside0.mk (builder_only HB.out ho1 hbl); clear ha1 ho1) | (go_at_call 55; refine (wrong_good _ b _ HA1.out ad ((HE'.out.only HO1.out hN (by have := HO.out.size; omega)).errs.cell 1 (by omega))).mono ?_; rintro e w2 ⟨rfl, ha2, ho2⟩; have HA2 := Aside0.mk ha2; have HO2 := Aside0.mk ho2; clear ha2 ho2) | (go_at_call 74; refine (Bld.len_any 100 _ _ _ _ HB1.out).mono ?_; rintro e w' ⟨rfl, rfl⟩; rw [Lib.byteCells_length, bytesIn_length s i0 i hi]))
            go_ret
            exact ⟨⟨⟨#[]⟩, by decide, rfl, fun a j he => by rw [HR.out] at he; cases he⟩, by rw [HR.out]; exact ⟨_, HA2.out⟩, (HO.out.trans HO1.out).trans HO2.out⟩
          · have hlo' : 32 ≤ ((s[i]).toNat : Int) := by omega
            by_cases h127 : ((s[i]).toNat : Int) = 127
            · rw [if_pos (.inr (.inl h127))] at e
              have HR := Aside0.mk e.symm
              have h127b : (((s[i]).toNat : Int) == 127) = true := beq_iff_eq.mpr h127
              clear e h127 hlo
              go_wp2_with (first | (go_at_call 50; refine (byte_some _ b s i hlt H.out).mono ?_; rintro e w1 ⟨rfl, ha1, ho1⟩; obtain ⟨g0, g1, _, _⟩ := At.cells ha1; have HA1 := Aside0.mk ha1; have HO1 := Aside0.mk ho1; have HB1 := Aside0.mk (builder_only HB.out ho1 hbl); clear ha1 ho1) | (go_at_call 55; refine (wrong_good _ b _ HA1.out ad ((HE'.out.only HO1.out hN (by have := HO.out.size; omega)).errs.cell 1 (by omega))).mono ?_; rintro e w2 ⟨rfl, ha2, ho2⟩; have HA2 := Aside0.mk ha2; have HO2 := Aside0.mk ho2; clear ha2 ho2) | (go_at_call 74; refine (Bld.len_any 100 _ _ _ _ HB1.out).mono ?_; rintro e w' ⟨rfl, rfl⟩; rw [Lib.byteCells_length, bytesIn_length s i0 i hi]))
              go_ret
              exact ⟨⟨⟨#[]⟩, by decide, rfl, fun a j he => by rw [HR.out] at he; cases he⟩, by rw [HR.out]; exact ⟨_, HA2.out⟩, (HO.out.trans HO1.out).trans HO2.out⟩
            · have h127b : (((s[i]).toNat : Int) == 127) = false := beq_eq_false_iff_ne.mpr h127
              have hbo : ¬ 127 = ((s[i]).toNat : Int) := fun e => h127 e.symm
              by_cases hmx : i - i0 = 4096
              · rw [if_pos (.inr (.inr hmx))] at e
                have HR := Aside0.mk e.symm
                have hmb : (((i - i0 : Nat) : Int) == 4096) = true := by rw [beq_iff_eq]; omega
                clear e h127 hlo hbo hmx
                go_wp2_with (first | (go_at_call 50; refine (byte_some _ b s i hlt H.out).mono ?_; rintro e w1 ⟨rfl, ha1, ho1⟩; obtain ⟨g0, g1, _, _⟩ := At.cells ha1; have HA1 := Aside0.mk ha1; have HO1 := Aside0.mk ho1; have HB1 := Aside0.mk (builder_only HB.out ho1 hbl); clear ha1 ho1) | (go_at_call 55; refine (wrong_good _ b _ HA1.out ad ((HE'.out.only HO1.out hN (by have := HO.out.size; omega)).errs.cell 1 (by omega))).mono ?_; rintro e w2 ⟨rfl, ha2, ho2⟩; have HA2 := Aside0.mk ha2; have HO2 := Aside0.mk ho2; clear ha2 ho2) | (go_at_call 74; refine (Bld.len_any 100 _ _ _ _ HB1.out).mono ?_; rintro e w' ⟨rfl, rfl⟩; rw [Lib.byteCells_length, bytesIn_length s i0 i hi]))
                go_ret
                exact ⟨⟨⟨#[]⟩, by decide, rfl, fun a j he => by rw [HR.out] at he; cases he⟩, by rw [HR.out]; exact ⟨_, HA2.out⟩, (HO.out.trans HO1.out).trans HO2.out⟩
              · rw [if_neg (by omega)] at e
                have HR := Aside0.mk e
                have hmb : (((i - i0 : Nat) : Int) == 4096) = false := by rw [beq_eq_false_iff_ne]; omega
                have HM := Aside0.mk hmx
                clear e h127 hlo hbo hmx
                go_wp2_with (first | (go_at_call 50; refine (byte_some _ b s i hlt H.out).mono ?_; rintro e w1 ⟨rfl, ha1, ho1⟩; obtain ⟨g0, g1, _, _⟩ := At.cells ha1; have HA1 := Aside0.mk ha1; have HO1 := Aside0.mk ho1; have HB1 := Aside0.mk (builder_only HB.out ho1 hbl); clear ha1 ho1) | (go_at_call 74; refine (Bld.len_any 100 _ _ _ _ HB1.out).mono ?_; rintro e w' ⟨rfl, rfl⟩; rw [Lib.byteCells_length, bytesIn_length s i0 i hi]) | (go_at_call 70; refine (Bld.writeByte_any 100 _ _ Bld.bt100 _ _ _ HB1.out (by rw [Lib.byteCells_length, bytesIn_length s i0 i hi]; omega) (by have := HO.out.size; have := HO1.out.size; omega)).mono ?_; rintro e w2 ⟨rfl, hb2, hbl2⟩; have HB2 := Aside0.mk hb2; have HL2 := Aside0.mk hbl2; clear hb2 hbl2))
                go_roundw
                case rel => exact ⟨⟨.good (i + 1) (by omega) hlt (by have := HM.out; omega) (good_below HA1.out HL2.out hbl) (by rw [← HR.out, show s.size - (i + 1) = f from by have := HF.out; omega, show i + 1 - i0 = i - i0 + 1 from by omega]) (.inr (by rw [bytesIn_snoc s i0 i h0 hlt, byteCells_snoc]; exact HB2.out))⟩, ⟨(HO.out.trans HO1.out).of_below_lt HL2.out (Nat.le_refl _)⟩⟩
                case measure => rw [mz_good H.out, mz_good (good_below HA1.out HL2.out hbl)]; omega
      · have HR := Aside0.mk (show R = .no 3 by rw [← e, show s.size - i = 0 from by omega, lin])
        clear e
        go_wp2_with (go_at_call 50; refine (byte_end _ b s i hlt H.out ad (HE'.out.errs.cell 3 (by omega))).mono ?_; rintro e w2 ⟨rfl, ha2, ho2⟩; obtain ⟨g0, g1, _, _⟩ := At.cells ha2; have HA2 := Aside0.mk ha2; have HO2 := Aside0.mk ho2; clear ha2 ho2)
        go_ret
        exact ⟨⟨⟨#[]⟩, by decide, rfl, fun a j he => by rw [HR.out] at he; cases he⟩, by rw [HR.out]; exact ⟨_, HA2.out⟩, HO.out.trans HO2.out⟩
end Go.Proofs.YtbdfjiobegadjaaDoor.Tk
