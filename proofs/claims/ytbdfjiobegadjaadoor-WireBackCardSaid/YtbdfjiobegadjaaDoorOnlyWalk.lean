/- The walk of the law: what is read, written again, is the very bytes. -/
import Derived.Test.YtbdfjiobegadjaaDoorEncode
import Derived.Test.YtbdfjiobegadjaaDoorDecode
import Derived.Test.YtbdfjiobegadjaaDoorNum
import Derived.Test.YtbdfjiobegadjaaDoorTwo
namespace Go.Proofs.YtbdfjiobegadjaaDoor.Wr
open Go Go.RowKit Go.Proofs.YtbdfjiobegadjaaDoor.Tk Go.Proofs.YtbdfjiobegadjaaDoor.PWireMemory Go.Proofs.YtbdfjiobegadjaaDoorW.PrintWords Go.Proofs.YtbdfjiobegadjaaDoorW.PrintLast Go.Proofs.YtbdfjiobegadjaaDoorW.PrintMore
set_option linter.unusedVariables false
set_option linter.unusedSectionVars false
set_option linter.unusedSimpArgs false
theorem en_here {W : World} {ad : Nat → Addr} (h : Errs W ad) : EN W.heap.size W ad := by
  refine ⟨h, ?_, fun i hi => by obtain ⟨c, t, hb⟩ := h.blk i hi; exact blk_lt hb⟩
  have := h.cell 12 (by omega)
  by_cases hl : 13 ≤ W.heap.size
  · exact hl
  · exfalso
    simp only [World.cell?] at this
    rw [Array.getElem?_eq_none (by omega)] at this
    cases this
theorem errs_on {W W' : World} {ad : Nat → Addr} (h : Errs W ad) (hb : Below W.heap.size W W') : Errs W' ad := ((en_here h).below hb).errs
theorem tab_on {W W' : World} (h : Tab W.heap.size W) (hb : Below W.heap.size W W') : Tab W'.heap.size W' := fun w hw => h w (hb.trans (hw.mono hb.size))
theorem x_form {w : World} {base : Nat} {x : S24} {c0 c1 c2 c3 : Value} (h : k24.M w base (fun _ => True) x [c0, c1, c2, c3]) :
    ∃ A c, c0 = .int .i64 x.f0 ∧ c1 = .int .i64 x.f1 ∧ c2 = .string x.f2 ∧ c3 = .slice A x.f3.length c ∧ x.f3.length ≤ c ∧ k24.C w A x.f3.length x.f3 := by
  obtain ⟨A, c, e, hl, hC⟩ := k24_open (k24.K_of_M h)
  simp only [List.cons.injEq, and_true] at e
  obtain ⟨rfl, rfl, rfl, rfl⟩ := e
  exact ⟨A, c, rfl, rfl, rfl, rfl, hl, hC⟩
theorem seven : ansS ⟨#[58, 55, 13, 10]⟩ 4 0 = .ok ⟨3, 7, ⟨#[]⟩, []⟩ 4 := by rfl
theorem ans_two {s : ByteArray} {k : Nat} (h : ansS s 4 0 = .no k) : k = 1 ∨ k = 3 := by
  have := ansS_two s 4 0
  rw [h] at this
  exact this
theorem decode_ok {s : ByteArray} {x : S24} {j : Nat} (h : ansS s 4 0 = .ok x j) (W : World) (ad : Nat → Addr) (hE : Errs W ad) (hs : s.size ≤ 140738562097152) :
    Calls Tryd.prog 10 #[.string s] W fun e w' => ∃ A c, e = .returned (.tuple #[agv x A c, .int .i64 j, .nilIface]) ∧ x.f3.length ≤ c ∧ k24.C w' A x.f3.length x.f3 ∧ Below W.heap.size W w' := by
  refine (decode_any W W.heap.size s ad hs (Nat.le_refl _) (en_here hE)).mono ?_
  rw [h]
  rintro _ w1 ⟨⟨c0, c1, c2, c3, rfl, hM⟩, hb1⟩
  obtain ⟨A, c, rfl, rfl, rfl, rfl, hc, hA⟩ := x_form (show k24.M w1 W.heap.size (fun _ => True) x _ from hM)
  exact ⟨A, c, rfl, hc, hA, hb1⟩
theorem decode_no {s : ByteArray} {k : Nat} (h : ansS s 4 0 = .no k) (W : World) (ad : Nat → Addr) (hE : Errs W ad) (hs : s.size ≤ 140738562097152) :
    Calls Tryd.prog 10 #[.string s] W fun e w' => ∃ A c, e = .returned (.tuple #[agv ⟨0, 0, ⟨#[]⟩, []⟩ A c, .int .i64 0, ev ad k]) ∧ k24.C w' A ([] : List S24).length [] ∧ Below W.heap.size W w' := by
  refine (decode_any W W.heap.size s ad hs (Nat.le_refl _) (en_here hE)).mono ?_
  rw [h]
  rintro _ w1 ⟨⟨c0, c1, c2, c3, rfl, hM⟩, hb1⟩
  obtain ⟨A, c, rfl, rfl, rfl, rfl, hc, hA⟩ := x_form (show k24.M w1 W.heap.size (fun _ => True) ⟨0, 0, ⟨#[]⟩, []⟩ _ from hM)
  exact ⟨A, c, rfl, hA, hb1⟩
theorem same_zero (W : World) (A : Option Addr) (c : Nat) (h : k24.C W A ([] : List S24).length []) :
    Calls Tryd.prog 12 #[agv ⟨0, 0, ⟨#[]⟩, []⟩ A c, .agg #[.int .i64 0, .int .i64 0, .string ⟨#[]⟩, .slice none 0 0]] W (TrueOk W) :=
  same_all _ ⟨0, 0, ⟨#[]⟩, []⟩ (Nat.le_refl _) W A none c 0 (Nat.zero_le _) (Nat.le_refl _) h (Kd.C_nil _ _)
set_option maxHeartbeats 2000000 in
theorem walk_only (s : ByteArray) (W : World) (ad : Nat → Addr) (hE : Errs W ad) (hT : Tab W.heap.size W) (hs : s.size ≤ 140737488351232) :
    Calls Tryd.prog 7 #[.string s] W fun e w' => e = .returned (.bool true) ∧ Below W.heap.size W w' := by
  have HE := Aside0.mk hE
  have HT := Lib.hid hT
  clear hE hT
  cases hR : ansS s 4 0 with
  | no k =>
    have HK := Aside0.mk (ans_two hR)
    have HR := Aside0.mk hR
    clear hR
    go_enter Tryd.func7, Tryd.ntmps7
    go_wp2_with fail
    go_at_call 10
    refine (decode_ok seven W ad HE.out (by decide)).mono ?_
    rintro _ w1 ⟨A, c, rfl, _, _, hb1⟩
    have HB1 := Aside0.mk hb1
    clear hb1
    go_wp2_with fail
    go_at_call 10
    refine (decode_no HR.out _ ad (errs_on HE.out (by exact (below_alloc HB1.out _))) (by omega)).mono ?_
    rintro _ w2 ⟨A2, c2, rfl, hA2, hb2⟩
    have HA2 := Aside0.mk hA2
    have HB2 := Aside0.mk ((below_alloc HB1.out (ago ⟨3, 7, ⟨#[]⟩, []⟩ A c)).trans (hb2.mono (by have := HB1.out.size; simp; omega)))
    clear hA2 hb2
    go_wp2_with fail
    go_at_call 12
    refine (same_zero _ A2 c2 (by exact (Kd.C_alloc HA2.out _))).mono ?_
    rintro _ w3 ⟨rfl, hb3⟩
    have HB3 := Aside0.mk ((below_alloc HB2.out (ago ⟨0, 0, ⟨#[]⟩, []⟩ A2 c2)).trans (hb3.mono (by have := HB2.out.size; simp; omega)))
    clear hb3
    go_wp2_with fail
    go_at_call 13
    refine (knum_any w3 ad (errs_on HE.out HB3.out) k (by have := HK.out; omega)).mono ?_
    rintro _ w4 ⟨rfl, rfl⟩
    rcases HK.out with rfl | rfl
    · go_wp2_with fail
      go_ret
      exact ⟨rfl, HB3.out⟩
    · go_wp2_with fail
      go_ret
      exact ⟨rfl, HB3.out⟩
  | ok x j =>
    obtain ⟨_, hj, hok, hen⟩ := ans_bytes hR
    have HR := Aside0.mk hR
    have HO := Lib.hid hok
    have HX := Aside0.mk (show (⟨(encD 4 x).toArray⟩ : ByteArray) = s.extract 0 j by rw [hen, bytes_back])
    have HL := Lib.hid (show (encD 4 x).length + 60 ≤ 140737488355328 by rw [hen, bytesIn_length s 0 j hj]; omega)
    have hj' : (j : Int) ≤ (s.size : Int) := by omega
    clear hR hok hen
    go_enter Tryd.func7, Tryd.ntmps7
    go_wp2_with fail
    go_at_call 10
    refine (decode_ok seven W ad HE.out (by decide)).mono ?_
    rintro _ w1 ⟨A, c, rfl, _, _, hb1⟩
    have HB1 := Aside0.mk hb1
    clear hb1
    go_wp2_with fail
    go_at_call 10
    refine (decode_ok HR.out _ ad (errs_on HE.out (by exact (below_alloc HB1.out _))) (by omega)).mono ?_
    rintro _ w2 ⟨A2, c2, rfl, hc2, hA2, hb2⟩
    have HA2 := Aside0.mk hA2
    have HB2 := Aside0.mk ((below_alloc HB1.out (ago ⟨3, 7, ⟨#[]⟩, []⟩ A c)).trans (hb2.mono (by have := HB1.out.size; simp; omega)))
    clear hA2 hb2
    go_wp2_with fail
    go_at_call 24
    refine (encode_any x HO.out _ (tab_on HT.out (by exact (below_alloc HB2.out _))) HL.out A2 c2 hc2 (by exact (Kd.C_alloc HA2.out _))).mono ?_
    rintro _ w3 ⟨rfl, hb3⟩
    rw [HX.out]
    have HB3 := Aside0.mk ((below_alloc HB2.out (ago x A2 c2)).trans (hb3.mono (by have := HB2.out.size; simp; omega)))
    clear hb3
    go_wp2_with fail
    go_ret
    exact ⟨by simp, HB3.out⟩
end Go.Proofs.YtbdfjiobegadjaaDoor.Wr
