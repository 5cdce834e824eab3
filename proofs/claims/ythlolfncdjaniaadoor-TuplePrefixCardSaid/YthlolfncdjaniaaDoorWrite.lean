/- The walk of tuple's write, at a list that may be. -/
import Derived.Test.YthlolfncdjaniaaDoorFault
import Derived.Test.YthlolfncdjaniaaDoorBuilder2
import Derived.Laws.Bits64
namespace Go.Proofs.YthlolfncdjaniaaDoor.Tu
open Go Go.RowKit Go.Proofs.YthlolfncdjaniaaDoor.PTuplePrefix Go.Proofs.YthlolfncdjaniaaDoorW.PrintWords Go.Proofs.YthlolfncdjaniaaDoorW.PrintLast Go.Proofs.YthlolfncdjaniaaDoorW.PrintMore
set_option linter.unusedVariables false
set_option linter.unusedSectionVars false
set_option linter.unusedSimpArgs false
structure WK (B b : Nat) (l : List UInt8) (W : World) (e : Ending) (W' : World) : Prop where
  end_ : e = .returned (.tuple #[])
  at_ : Wb B b l W'
  below : Below B W W'
  keep : Bld.Keep46 W W'
theorem write1_k (B b : Nat) (l : List UInt8) (c : UInt8) (n : Int) (hn : (c.toNat : Int) = n) (W : World) (h : Wb B b l W) (hlen : l.length + 1 ≤ 140737488355328) (hB : B ≤ W.heap.size) :
    Calls Tryd.prog 44 #[.pointer (some ⟨b, 0, none⟩), .int .u8 n] W fun e w' => e = .returned .nilIface ∧ Wb B b (l ++ [c]) w' ∧ Below B W w' ∧ Bld.Keep46 W w' := by
  subst hn
  exact (Bld.writeByte_k 70 B b Bld.bt (by decide) (Lib.byteCells l) c.toNat W h (by rw [Lib.byteCells_length]; exact hlen) hB).mono fun e w' ⟨h1, h2, h3, h4⟩ => ⟨h1, .inr (by rw [byteCells_snoc]; exact h2), h3, h4⟩
theorem writeS_k (B b : Nat) (l : List UInt8) (s : ByteArray) (W : World) (h : Wb B b l W) (hlen : l.length + s.size ≤ 140737488355328) (hB : B ≤ W.heap.size) :
    Calls Tryd.prog 45 #[.pointer (some ⟨b, 0, none⟩), .string s] W fun e w' => e = .returned (.tuple #[.int .i64 s.size, .nilIface]) ∧ Wb B b (l ++ s.data.toList) w' ∧ Below B W w' ∧ Bld.Keep46 W w' :=
  (Bld.writeString_k 70 B b Bld.bt (by decide) (Lib.byteCells l) s W h (by rw [Lib.byteCells_length]; exact hlen) hB).mono fun e w' ⟨h1, h2, h3, h4⟩ => ⟨h1, .inr (by rw [Lib.byteCells_append]; exact h2), h3, h4⟩
/-- What write is asked of: the lists within. -/
def WriteAt (d : Nat) (l : List S46) : Prop := ∀ (W0 : World) (A : Option Addr) (c : Nat), k46.C W0 A l.length l → ∀ (b : Nat) (acc : List UInt8) (W : World), Below W0.heap.size W0 W → Wb W0.heap.size b acc W → acc.length + (encL d l).length ≤ 300000000000 →
  Calls Tryd.prog 34 #[.pointer (some ⟨b, 0, none⟩), .slice A l.length c] W (WK W0.heap.size b (acc ++ encL d l) W)
theorem enc_null (d : Nat) : encI d ⟨1, 0, ⟨#[]⟩, []⟩ = [1] := by cases d <;> rfl
theorem enc_flag (d : Nat) (n : Int) : encI d ⟨2, n, ⟨#[]⟩, []⟩ = [2, UInt8.ofNat n.toNat] := by cases d <;> rfl
theorem enc_num (d : Nat) (n : Int) : encI d ⟨3, n, ⟨#[]⟩, []⟩ = 3 :: numB n := by cases d <;> rfl
theorem enc_text (d : Nat) (t : ByteArray) : encI d ⟨4, 0, t, []⟩ = 4 :: (esc t.data.toList ++ [0, 0]) := by cases d <;> rfl
theorem enc_list (d : Nat) (l : List S46) : encI (d + 1) ⟨5, 0, ⟨#[]⟩, l⟩ = 5 :: (encL d l ++ [0]) := rfl
theorem enc_len_mono (d : Nat) (l : List S46) (i : Nat) (h : i < l.length) : (encL d (l.take (i + 1))).length ≤ (encL d l).length := by
  conv => rhs; rw [← List.take_append_drop (i + 1) l, encL_app, List.length_append]
  omega
theorem xor_nat (m : Nat) (hm : m < 18446744073709551616) : m ^^^ 9223372036854775808 = (m + 9223372036854775808) % 18446744073709551616 := by
  have e : (9223372036854775808 : Nat) = 2 ^ 63 := by decide
  have e2 : (18446744073709551616 : Nat) = 2 ^ 64 := by decide
  rw [e2] at hm
  rw [e, e2]
  apply Nat.eq_of_testBit_eq
  intro i
  rw [Nat.testBit_xor, Nat.testBit_two_pow, Nat.testBit_mod_two_pow, Nat.add_comm]
  rcases Nat.lt_trichotomy i 63 with h | h | h
  · rw [Nat.testBit_two_pow_add_gt h, show decide (63 = i) = false by simp; omega, show decide (i < 64) = true by simp; omega]
    simp
  · subst h
    rw [Nat.testBit_two_pow_add_eq]
    simp
  · rw [show decide (63 = i) = false by simp; omega, show decide (i < 64) = false by simp; omega, Nat.testBit_lt_two_pow (Nat.lt_of_lt_of_le hm (Nat.pow_le_pow_right (by decide) (by omega)))]
    rfl
theorem xor_num (n : Int) (h : -9223372036854775808 ≤ n ∧ n ≤ 9223372036854775807) (U : Nat) (hU : (n + 9223372036854775808).toNat = U) : bits .xor .u64 (IntKind.u64.wrap n) 9223372036854775808 = (U : Int) := by
  obtain ⟨m, hm⟩ : ∃ m : Nat, IntKind.u64.wrap n = (m : Int) := ⟨(IntKind.u64.wrap n).toNat, by rw [IntKind.wrap_u64]; omega⟩
  have hm2 : (m : Int) = n % 18446744073709551616 := by rw [← hm, IntKind.wrap_u64]
  have hlt : m < 18446744073709551616 := by omega
  have := bits_xor_u64_nat m 9223372036854775808 hlt (by decide)
  rw [hm]
  refine this.trans ?_
  rw [xor_nat m hlt]
  omega
set_option maxHeartbeats 8000000 in
set_option maxRecDepth 100000 in
theorem write_list (d : Nat) (hd : d ≤ 4) (l : List S46) (hok : ∀ y, y ∈ l → Ok46 d y) (hin : ∀ d', d = d' + 1 → ∀ y, y ∈ l → WriteAt d' y.f3) : WriteAt d l := by
  intro W0 A c hA b acc W hW h hlen
  have HA := Aside0.mk hA
  have HI := Lib.hid hin
  have HO := Lib.hid hok
  have H := Aside0.mk h
  have HW0 := Aside0.mk hW
  have hm := Kd.C_max hA
  have hbw := hW.size
  clear hA hin hok h hW
  go_enter Tryd.func34, Tryd.ntmps34
  go_wp2_with fail
  go_loopw [10] (fun v10 W' => ∃ i : Nat, v10 = .int .i64 i ∧ i ≤ l.length ∧ Aside0 (Wb W0.heap.size b (acc ++ encL d (l.take i)) W') ∧ Aside0 (Below W0.heap.size W W') ∧ Aside0 (Bld.Keep46 W W')) (fun v10 _ => l.length - (intOf v10).toNat)
  case atStart => exact ⟨0, rfl, by omega, ⟨by rw [List.take_zero]; show Wb _ _ (acc ++ []) _; rw [List.append_nil]; exact H.out⟩, ⟨Below.refl _ _⟩, ⟨Bld.Keep46.refl _⟩⟩
  case round =>
    obtain ⟨i, rfl, hi, HWr, HBr, HKr⟩ := hrel
    by_cases hlt : i < l.length
    · have hlt' : (i : Int) < (l.length : Int) := by omega
      obtain ⟨a, B, e, rfl, z0, z1, z2, z3, ae, aC⟩ := elem46 HA.out i hlt
      have hwr := HW0.out.trans HBr.out
      have a0 := pw_cell_below hwr z0
      have a1 := pw_cell_below hwr z1
      have a2 := pw_cell_below hwr z2
      have a3 := pw_cell_below hwr z3
      clear z0 z1 z2 z3 hwr
      have hsn := Lib.hid (enc_snoc d l i hlt)
      have hmn := enc_len_mono d l i hlt
      rw [hsn.out, List.length_append] at hmn
      have hx := HO.out _ (rd_mem hlt)
      have hf := Lib.hid (fun d' hd' => HI.out d' hd' _ (rd_mem hlt))
      have hbs := HBr.out.size
      generalize rd_T46 l (i : Int) = x at a0 a1 a2 a3 ae aC hx hf hmn hsn
      obtain ⟨pre, hpre⟩ : ∃ pre, acc ++ encL d (l.take i) = pre := ⟨_, rfl⟩
      have hpl : pre.length = acc.length + (encL d (l.take i)).length := by rw [← hpre, List.length_append]
      have HSN := Lib.hid (show acc ++ encL d (l.take (i + 1)) = pre ++ encI d x by rw [hsn.out, ← List.append_assoc, hpre])
      rw [hpre] at HWr
      clear hpre
      have HW1 := Aside0.mk (wb_below HWr.out (below_alloc (Below.refl _ _) (ago x B e)))
      have HB1 := Aside0.mk (show Below W0.heap.size W (wr.alloc (ago x B e)) from HBr.out.alloc (by omega) _)
      have HK1 := Aside0.mk (HKr.out.trans (Bld.keep_below (below_alloc (Below.refl _ _) (ago x B e))))
      have HR1 := Aside0.mk (show RAt (wr.alloc (ago x B e)) wr.heap.size _ _ _ _ from (MapKept.heap_alloc _ _).1)
      have hs1 : W0.heap.size ≤ (wr.alloc (ago x B e)).heap.size := by simp; omega
      have AC := Aside0.mk aC
      clear aC
      cases hx with
      | null =>
        have HLX := Lib.hid (enc_null d)
        have hmn' := hmn
        rw [HLX.out] at hmn'
        dsimp only at a0 a1 a2 a3 ae AC HW1 HB1 HK1 HR1 hs1
        simp only [List.length_cons, List.length_append, List.length_nil] at hmn'
        go_wp2_with fail
        go_at_call 44
        refine (write1_k W0.heap.size b pre 1 1 rfl _ HW1.out (by omega) hs1).mono ?_
        rintro _ w2 ⟨rfl, ha2, hb2, hk2⟩
        have HR2 := Aside0.mk (show RAt w2 wr.heap.size _ _ _ _ from hk2 _ _ HR1.out)
        obtain ⟨⟨m0, m1, m2, m3⟩, _⟩ := HR2.out.cells
        have HW2 := Aside0.mk ha2
        have HB2 := Aside0.mk (HB1.out.trans hb2)
        have HK2 := Aside0.mk (HK1.out.trans hk2)
        have hs2 := Nat.le_trans hs1 hb2.size
        clear ha2 hb2 hk2
        go_wp2_with fail
        go_roundw
        case rel => exact ⟨i + 1, by go_num, by omega, ⟨by rw [HSN.out, HLX.out]; have := HW2.out; simpa using this⟩, HB2, HK2⟩
        case measure => simp [intOf]; omega
      | flag _ n h =>
        have HLX := Lib.hid (enc_flag d n)
        have hmn' := hmn
        rw [HLX.out] at hmn'
        dsimp only at a0 a1 a2 a3 ae AC HW1 HB1 HK1 HR1 hs1
        simp only [List.length_cons, List.length_append, List.length_nil] at hmn'
        go_wp2_with fail
        go_at_call 44
        refine (write1_k W0.heap.size b pre 2 2 rfl _ HW1.out (by omega) hs1).mono ?_
        rintro _ w2 ⟨rfl, ha2, hb2, hk2⟩
        have HR2 := Aside0.mk (show RAt w2 wr.heap.size _ _ _ _ from hk2 _ _ HR1.out)
        obtain ⟨⟨m0, m1, m2, m3⟩, _⟩ := HR2.out.cells
        have HW2 := Aside0.mk ha2
        have HB2 := Aside0.mk (HB1.out.trans hb2)
        have HK2 := Aside0.mk (HK1.out.trans hk2)
        have hs2 := Nat.le_trans hs1 hb2.size
        clear ha2 hb2 hk2
        rcases h with rfl | rfl
        · go_wp2_with fail
          go_at_call 44
          refine (write1_k W0.heap.size b _ 0 0 rfl w2 HW2.out (by simp; omega) hs2).mono ?_
          rintro _ w3 ⟨rfl, ha2, hb2, hk2⟩
          have HR3 := Aside0.mk (show RAt w3 wr.heap.size _ _ _ _ from hk2 _ _ HR2.out)
          obtain ⟨⟨m0, m1, m2, m3⟩, _⟩ := HR3.out.cells
          have HW3 := Aside0.mk ha2
          have HB3 := Aside0.mk (HB2.out.trans hb2)
          have HK3 := Aside0.mk (HK2.out.trans hk2)
          have hs3 := Nat.le_trans hs2 hb2.size
          clear ha2 hb2 hk2
          go_wp2_with fail
          go_roundw
          case rel => exact ⟨i + 1, by go_num, by omega, ⟨by rw [HSN.out, HLX.out]; have := HW3.out; simpa using this⟩, HB3, HK3⟩
          case measure => simp [intOf]; omega
        · go_wp2_with fail
          go_at_call 44
          refine (write1_k W0.heap.size b _ 1 1 rfl w2 HW2.out (by simp; omega) hs2).mono ?_
          rintro _ w3 ⟨rfl, ha2, hb2, hk2⟩
          have HR3 := Aside0.mk (show RAt w3 wr.heap.size _ _ _ _ from hk2 _ _ HR2.out)
          obtain ⟨⟨m0, m1, m2, m3⟩, _⟩ := HR3.out.cells
          have HW3 := Aside0.mk ha2
          have HB3 := Aside0.mk (HB2.out.trans hb2)
          have HK3 := Aside0.mk (HK2.out.trans hk2)
          have hs3 := Nat.le_trans hs2 hb2.size
          clear ha2 hb2 hk2
          go_wp2_with fail
          go_roundw
          case rel => exact ⟨i + 1, by go_num, by omega, ⟨by rw [HSN.out, HLX.out]; have := HW3.out; simpa using this⟩, HB3, HK3⟩
          case measure => simp [intOf]; omega
      | num _ n h =>
        have HLX := Lib.hid (enc_num d n)
        have hmn' := hmn
        rw [HLX.out] at hmn'
        dsimp only at a0 a1 a2 a3 ae AC HW1 HB1 HK1 HR1 hs1
        simp only [List.length_cons, List.length_append, List.length_nil] at hmn'
        go_wp2_with fail
        go_at_call 44
        refine (write1_k W0.heap.size b pre 3 3 rfl _ HW1.out (by omega) hs1).mono ?_
        rintro _ w2 ⟨rfl, ha2, hb2, hk2⟩
        have HR2 := Aside0.mk (show RAt w2 wr.heap.size _ _ _ _ from hk2 _ _ HR1.out)
        obtain ⟨⟨m0, m1, m2, m3⟩, _⟩ := HR2.out.cells
        have HW2 := Aside0.mk ha2
        have HB2 := Aside0.mk (HB1.out.trans hb2)
        have HK2 := Aside0.mk (HK1.out.trans hk2)
        have hs2 := Nat.le_trans hs1 hb2.size
        clear ha2 hb2 hk2
        have hbl := be_len 8 (n + 9223372036854775808).toNat
        unfold numB at hmn'
        rw [hbl] at hmn'
        obtain ⟨U, hU⟩ : ∃ U : Nat, (n + 9223372036854775808).toNat = U := ⟨_, rfl⟩
        have hxor := xor_num n h U hU
        have HLX := Lib.hid (show encI d ⟨3, n, ⟨#[]⟩, []⟩ = 3 :: be 8 U by rw [HLX.out, numB, hU])
        clear hU hbl
        go_wp2_with fail
        obtain ⟨pb, hpb⟩ : ∃ pb, wr.heap.size = pb := ⟨_, rfl⟩
        have HRP := Aside0.mk (show RAt w2 pb (.int .i64 3) (.int .i64 n) (.string ⟨#[]⟩) (.slice B 0 e) from hpb ▸ HR2.out)
        rw [hpb]
        go_loopw [7] (fun v7 W' => ∃ k : Nat, k ≤ 8 ∧ v7 = .int .i64 (56 - 8 * (k : Int)) ∧ Aside0 (Wb W0.heap.size b ((pre ++ [3]) ++ (be 8 U).take k) W') ∧ Aside0 (Below W0.heap.size W W') ∧ Aside0 (Bld.Keep46 W W') ∧ Aside0 (RAt W' pb (.int .i64 3) (.int .i64 n) (.string ⟨#[]⟩) (.slice B 0 e))) (fun v7 _ => (intOf v7 + 8).toNat)
        case atStart => exact ⟨0, by omega, rfl, ⟨by have := HW2.out; simpa using this⟩, HB2, HK2, HRP⟩
        case round =>
          obtain ⟨k, hk, rfl, HWk, HBk, HKk, HRk⟩ := hrel
          by_cases hk8 : k < 8
          · have hsk := HBk.out.size
            rcases (show k = 0 ∨ k = 1 ∨ k = 2 ∨ k = 3 ∨ k = 4 ∨ k = 5 ∨ k = 6 ∨ k = 7 by omega) with rfl | rfl | rfl | rfl | rfl | rfl | rfl | rfl
            · have htk := Lib.hid (show (be 8 U).take 1 = (be 8 U).take 0 ++ [UInt8.ofNat (U / 72057594037927936 % 256)] from rfl)
              have hlk : ((pre ++ [3]) ++ (be 8 U).take 0).length + 1 ≤ 140737488355328 := by rw [List.length_append, List.length_append, List.length_take, be_len]; simp; omega
              go_wp2_with fail
              go_at_call 44
              refine (write1_k W0.heap.size b _ (UInt8.ofNat (U / 72057594037927936 % 256)) _ (by rw [UInt8.toNat_ofNat']; omega) _ HWk.out hlk (by omega)).mono ?_
              rintro _ w3 ⟨rfl, ha2, hb2, hk2⟩
              have HW3 := Aside0.mk ha2
              have HB3 := Aside0.mk (HBk.out.trans hb2)
              have HK3 := Aside0.mk (HKk.out.trans hk2)
              have HR3 := Aside0.mk (show RAt w3 pb _ _ _ _ from hk2 _ _ HRk.out)
              clear ha2 hb2 hk2
              go_wp2_with fail
              go_roundw
              case rel => exact ⟨1, by omega, by go_num, ⟨by rw [htk.out, ← List.append_assoc]; exact HW3.out⟩, HB3, HK3, HR3⟩
              case measure => simp [intOf]
            · have htk := Lib.hid (show (be 8 U).take 2 = (be 8 U).take 1 ++ [UInt8.ofNat (U / 281474976710656 % 256)] from rfl)
              have hlk : ((pre ++ [3]) ++ (be 8 U).take 1).length + 1 ≤ 140737488355328 := by rw [List.length_append, List.length_append, List.length_take, be_len]; simp; omega
              go_wp2_with fail
              go_at_call 44
              refine (write1_k W0.heap.size b _ (UInt8.ofNat (U / 281474976710656 % 256)) _ (by rw [UInt8.toNat_ofNat']; omega) _ HWk.out hlk (by omega)).mono ?_
              rintro _ w3 ⟨rfl, ha2, hb2, hk2⟩
              have HW3 := Aside0.mk ha2
              have HB3 := Aside0.mk (HBk.out.trans hb2)
              have HK3 := Aside0.mk (HKk.out.trans hk2)
              have HR3 := Aside0.mk (show RAt w3 pb _ _ _ _ from hk2 _ _ HRk.out)
              clear ha2 hb2 hk2
              go_wp2_with fail
              go_roundw
              case rel => exact ⟨2, by omega, by go_num, ⟨by rw [htk.out, ← List.append_assoc]; exact HW3.out⟩, HB3, HK3, HR3⟩
              case measure => simp [intOf]
            · have htk := Lib.hid (show (be 8 U).take 3 = (be 8 U).take 2 ++ [UInt8.ofNat (U / 1099511627776 % 256)] from rfl)
              have hlk : ((pre ++ [3]) ++ (be 8 U).take 2).length + 1 ≤ 140737488355328 := by rw [List.length_append, List.length_append, List.length_take, be_len]; simp; omega
              go_wp2_with fail
              go_at_call 44
              refine (write1_k W0.heap.size b _ (UInt8.ofNat (U / 1099511627776 % 256)) _ (by rw [UInt8.toNat_ofNat']; omega) _ HWk.out hlk (by omega)).mono ?_
              rintro _ w3 ⟨rfl, ha2, hb2, hk2⟩
              have HW3 := Aside0.mk ha2
              have HB3 := Aside0.mk (HBk.out.trans hb2)
              have HK3 := Aside0.mk (HKk.out.trans hk2)
              have HR3 := Aside0.mk (show RAt w3 pb _ _ _ _ from hk2 _ _ HRk.out)
              clear ha2 hb2 hk2
              go_wp2_with fail
              go_roundw
              case rel => exact ⟨3, by omega, by go_num, ⟨by rw [htk.out, ← List.append_assoc]; exact HW3.out⟩, HB3, HK3, HR3⟩
              case measure => simp [intOf]
            · have htk := Lib.hid (show (be 8 U).take 4 = (be 8 U).take 3 ++ [UInt8.ofNat (U / 4294967296 % 256)] from rfl)
              have hlk : ((pre ++ [3]) ++ (be 8 U).take 3).length + 1 ≤ 140737488355328 := by rw [List.length_append, List.length_append, List.length_take, be_len]; simp; omega
              go_wp2_with fail
              go_at_call 44
              refine (write1_k W0.heap.size b _ (UInt8.ofNat (U / 4294967296 % 256)) _ (by rw [UInt8.toNat_ofNat']; omega) _ HWk.out hlk (by omega)).mono ?_
              rintro _ w3 ⟨rfl, ha2, hb2, hk2⟩
              have HW3 := Aside0.mk ha2
              have HB3 := Aside0.mk (HBk.out.trans hb2)
              have HK3 := Aside0.mk (HKk.out.trans hk2)
              have HR3 := Aside0.mk (show RAt w3 pb _ _ _ _ from hk2 _ _ HRk.out)
              clear ha2 hb2 hk2
              go_wp2_with fail
              go_roundw
              case rel => exact ⟨4, by omega, by go_num, ⟨by rw [htk.out, ← List.append_assoc]; exact HW3.out⟩, HB3, HK3, HR3⟩
              case measure => simp [intOf]
            · have htk := Lib.hid (show (be 8 U).take 5 = (be 8 U).take 4 ++ [UInt8.ofNat (U / 16777216 % 256)] from rfl)
              have hlk : ((pre ++ [3]) ++ (be 8 U).take 4).length + 1 ≤ 140737488355328 := by rw [List.length_append, List.length_append, List.length_take, be_len]; simp; omega
              go_wp2_with fail
              go_at_call 44
              refine (write1_k W0.heap.size b _ (UInt8.ofNat (U / 16777216 % 256)) _ (by rw [UInt8.toNat_ofNat']; omega) _ HWk.out hlk (by omega)).mono ?_
              rintro _ w3 ⟨rfl, ha2, hb2, hk2⟩
              have HW3 := Aside0.mk ha2
              have HB3 := Aside0.mk (HBk.out.trans hb2)
              have HK3 := Aside0.mk (HKk.out.trans hk2)
              have HR3 := Aside0.mk (show RAt w3 pb _ _ _ _ from hk2 _ _ HRk.out)
              clear ha2 hb2 hk2
              go_wp2_with fail
              go_roundw
              case rel => exact ⟨5, by omega, by go_num, ⟨by rw [htk.out, ← List.append_assoc]; exact HW3.out⟩, HB3, HK3, HR3⟩
              case measure => simp [intOf]
            · have htk := Lib.hid (show (be 8 U).take 6 = (be 8 U).take 5 ++ [UInt8.ofNat (U / 65536 % 256)] from rfl)
              have hlk : ((pre ++ [3]) ++ (be 8 U).take 5).length + 1 ≤ 140737488355328 := by rw [List.length_append, List.length_append, List.length_take, be_len]; simp; omega
              go_wp2_with fail
              go_at_call 44
              refine (write1_k W0.heap.size b _ (UInt8.ofNat (U / 65536 % 256)) _ (by rw [UInt8.toNat_ofNat']; omega) _ HWk.out hlk (by omega)).mono ?_
              rintro _ w3 ⟨rfl, ha2, hb2, hk2⟩
              have HW3 := Aside0.mk ha2
              have HB3 := Aside0.mk (HBk.out.trans hb2)
              have HK3 := Aside0.mk (HKk.out.trans hk2)
              have HR3 := Aside0.mk (show RAt w3 pb _ _ _ _ from hk2 _ _ HRk.out)
              clear ha2 hb2 hk2
              go_wp2_with fail
              go_roundw
              case rel => exact ⟨6, by omega, by go_num, ⟨by rw [htk.out, ← List.append_assoc]; exact HW3.out⟩, HB3, HK3, HR3⟩
              case measure => simp [intOf]
            · have htk := Lib.hid (show (be 8 U).take 7 = (be 8 U).take 6 ++ [UInt8.ofNat (U / 256 % 256)] from rfl)
              have hlk : ((pre ++ [3]) ++ (be 8 U).take 6).length + 1 ≤ 140737488355328 := by rw [List.length_append, List.length_append, List.length_take, be_len]; simp; omega
              go_wp2_with fail
              go_at_call 44
              refine (write1_k W0.heap.size b _ (UInt8.ofNat (U / 256 % 256)) _ (by rw [UInt8.toNat_ofNat']; omega) _ HWk.out hlk (by omega)).mono ?_
              rintro _ w3 ⟨rfl, ha2, hb2, hk2⟩
              have HW3 := Aside0.mk ha2
              have HB3 := Aside0.mk (HBk.out.trans hb2)
              have HK3 := Aside0.mk (HKk.out.trans hk2)
              have HR3 := Aside0.mk (show RAt w3 pb _ _ _ _ from hk2 _ _ HRk.out)
              clear ha2 hb2 hk2
              go_wp2_with fail
              go_roundw
              case rel => exact ⟨7, by omega, by go_num, ⟨by rw [htk.out, ← List.append_assoc]; exact HW3.out⟩, HB3, HK3, HR3⟩
              case measure => simp [intOf]
            · have htk := Lib.hid (show (be 8 U).take 8 = (be 8 U).take 7 ++ [UInt8.ofNat (U / 1 % 256)] from rfl)
              have hlk : ((pre ++ [3]) ++ (be 8 U).take 7).length + 1 ≤ 140737488355328 := by rw [List.length_append, List.length_append, List.length_take, be_len]; simp; omega
              go_wp2_with fail
              go_at_call 44
              refine (write1_k W0.heap.size b _ (UInt8.ofNat (U / 1 % 256)) _ (by rw [UInt8.toNat_ofNat']; omega) _ HWk.out hlk (by omega)).mono ?_
              rintro _ w3 ⟨rfl, ha2, hb2, hk2⟩
              have HW3 := Aside0.mk ha2
              have HB3 := Aside0.mk (HBk.out.trans hb2)
              have HK3 := Aside0.mk (HKk.out.trans hk2)
              have HR3 := Aside0.mk (show RAt w3 pb _ _ _ _ from hk2 _ _ HRk.out)
              clear ha2 hb2 hk2
              go_wp2_with fail
              go_roundw
              case rel => exact ⟨8, by omega, by go_num, ⟨by rw [htk.out, ← List.append_assoc]; exact HW3.out⟩, HB3, HK3, HR3⟩
              case measure => simp [intOf]
          · obtain rfl : k = 8 := by omega
            have htk := Lib.hid (show (be 8 U).take 8 = be 8 U by rw [List.take_of_length_le (by rw [be_len]; omega)])
            obtain ⟨⟨m0, m1, m2, m3⟩, _⟩ := HRk.out.cells
            go_wp2_with fail
            go_roundw
            case rel => exact ⟨i + 1, by go_num, by omega, ⟨by rw [HSN.out, HLX.out]; have := HWk.out; rw [htk.out] at this; simpa using this⟩, HBk, HKk⟩
            case measure => simp [intOf]; omega
      | text _ t h =>
        have HLX := Lib.hid (enc_text d t)
        have hmn' := hmn
        rw [HLX.out] at hmn'
        dsimp only at a0 a1 a2 a3 ae AC HW1 HB1 HK1 HR1 hs1
        simp only [List.length_cons, List.length_append, List.length_nil] at hmn'
        go_wp2_with fail
        go_at_call 44
        refine (write1_k W0.heap.size b pre 4 4 rfl _ HW1.out (by omega) hs1).mono ?_
        rintro _ w2 ⟨rfl, ha2, hb2, hk2⟩
        have HR2 := Aside0.mk (show RAt w2 wr.heap.size _ _ _ _ from hk2 _ _ HR1.out)
        obtain ⟨⟨m0, m1, m2, m3⟩, _⟩ := HR2.out.cells
        have HW2 := Aside0.mk ha2
        have HB2 := Aside0.mk (HB1.out.trans hb2)
        have HK2 := Aside0.mk (HK1.out.trans hk2)
        have hs2 := Nat.le_trans hs1 hb2.size
        clear ha2 hb2 hk2
        have hel := esc_len t.data.toList
        have hc0 : t.data.toList.count 0 ≤ t.data.toList.length := List.count_le_length
        rw [slen] at hel hc0
        have h2z : (⟨#[0, 0]⟩ : ByteArray).size = 2 := rfl
        have hes : (⟨(esc t.data.toList).toArray⟩ : ByteArray).size = (esc t.data.toList).length := List.size_toArray
        go_wp2_with fail
        go_at_call 46
        refine (replaceAll_any t (by omega) w2).mono ?_
        rintro _ w3 ⟨rfl, hb3⟩
        have HR3 := Aside0.mk (show RAt w3 wr.heap.size _ _ _ _ from (hb3.block _ (blk_lt HR2.out)).trans HR2.out)
        obtain ⟨⟨m0, m1, m2, m3⟩, _⟩ := HR3.out.cells
        have HW3 := Aside0.mk (wb_below HW2.out hb3)
        have HB3 := Aside0.mk (HB2.out.trans (hb3.mono hs2))
        have HK3 := Aside0.mk (HK2.out.trans (Bld.keep_below hb3))
        have hs3 := Nat.le_trans hs2 hb3.size
        clear hb3
        go_wp2_with fail
        go_at_call 45
        refine (writeS_k W0.heap.size b _ _ w3 HW3.out (by rw [hes]; simp; omega) hs3).mono ?_
        rintro _ w4 ⟨rfl, ha2, hb2, hk2⟩
        have HR4 := Aside0.mk (show RAt w4 wr.heap.size _ _ _ _ from hk2 _ _ HR3.out)
        obtain ⟨⟨m0, m1, m2, m3⟩, _⟩ := HR4.out.cells
        have HW4 := Aside0.mk ha2
        have HB4 := Aside0.mk (HB3.out.trans hb2)
        have HK4 := Aside0.mk (HK3.out.trans hk2)
        have hs4 := Nat.le_trans hs3 hb2.size
        clear ha2 hb2 hk2
        go_wp2_with fail
        go_at_call 45
        refine (writeS_k W0.heap.size b _ ⟨#[0, 0]⟩ w4 HW4.out (by simp; omega) hs4).mono ?_
        rintro _ w5 ⟨rfl, ha2, hb2, hk2⟩
        have HR5 := Aside0.mk (show RAt w5 wr.heap.size _ _ _ _ from hk2 _ _ HR4.out)
        obtain ⟨⟨m0, m1, m2, m3⟩, _⟩ := HR5.out.cells
        have HW5 := Aside0.mk ha2
        have HB5 := Aside0.mk (HB4.out.trans hb2)
        have HK5 := Aside0.mk (HK4.out.trans hk2)
        have hs5 := Nat.le_trans hs4 hb2.size
        clear ha2 hb2 hk2
        go_wp2_with fail
        go_roundw
        case rel => exact ⟨i + 1, by go_num, by omega, ⟨by rw [HSN.out, HLX.out]; have := HW5.out; simpa using this⟩, HB5, HK5⟩
        case measure => simp [intOf]; omega
      | list d2 l2 hl2 hok2 =>
        have HLX := Lib.hid (enc_list d2 l2)
        have hmn' := hmn
        rw [HLX.out] at hmn'
        dsimp only at a0 a1 a2 a3 ae AC HW1 HB1 HK1 HR1 hs1
        simp only [List.length_cons, List.length_append, List.length_nil] at hmn'
        go_wp2_with fail
        go_at_call 44
        refine (write1_k W0.heap.size b pre 5 5 rfl _ HW1.out (by omega) hs1).mono ?_
        rintro _ w2 ⟨rfl, ha2, hb2, hk2⟩
        have HR2 := Aside0.mk (show RAt w2 wr.heap.size _ _ _ _ from hk2 _ _ HR1.out)
        obtain ⟨⟨m0, m1, m2, m3⟩, _⟩ := HR2.out.cells
        have HW2 := Aside0.mk ha2
        have HB2 := Aside0.mk (HB1.out.trans hb2)
        have HK2 := Aside0.mk (HK1.out.trans hk2)
        have hs2 := Nat.le_trans hs1 hb2.size
        clear ha2 hb2 hk2
        go_wp2_with fail
        go_at_call 34
        refine (hf.out d2 rfl W0 B e AC.out b _ w2 (HW0.out.trans HB2.out) HW2.out (by simp; omega)).mono ?_
        rintro _ w3 ⟨rfl, ha2, hb2, hk2⟩
        have HR3 := Aside0.mk (show RAt w3 wr.heap.size _ _ _ _ from hk2 _ _ HR2.out)
        obtain ⟨⟨m0, m1, m2, m3⟩, _⟩ := HR3.out.cells
        have HW3 := Aside0.mk ha2
        have HB3 := Aside0.mk (HB2.out.trans hb2)
        have HK3 := Aside0.mk (HK2.out.trans hk2)
        have hs3 := Nat.le_trans hs2 hb2.size
        clear ha2 hb2 hk2
        go_wp2_with fail
        go_at_call 44
        refine (write1_k W0.heap.size b _ 0 0 rfl w3 HW3.out (by simp; omega) hs3).mono ?_
        rintro _ w4 ⟨rfl, ha2, hb2, hk2⟩
        have HR4 := Aside0.mk (show RAt w4 wr.heap.size _ _ _ _ from hk2 _ _ HR3.out)
        obtain ⟨⟨m0, m1, m2, m3⟩, _⟩ := HR4.out.cells
        have HW4 := Aside0.mk ha2
        have HB4 := Aside0.mk (HB3.out.trans hb2)
        have HK4 := Aside0.mk (HK3.out.trans hk2)
        have hs4 := Nat.le_trans hs3 hb2.size
        clear ha2 hb2 hk2
        go_wp2_with fail
        go_roundw
        case rel => exact ⟨i + 1, by go_num, by omega, ⟨by rw [HSN.out, HLX.out]; have := HW4.out; simpa using this⟩, HB4, HK4⟩
        case measure => simp [intOf]; omega
    · have hlt' : ¬ (i : Int) < (l.length : Int) := by omega
      obtain rfl : i = l.length := by omega
      rw [List.take_length] at HWr
      go_wp2_with fail
      go_end0
      exact ⟨rfl, HWr.out, HBr.out, HKr.out⟩
end Go.Proofs.YthlolfncdjaniaaDoor.Tu
