/- The walk of the document's Command. -/
import Derived.Test.YtbdfjiobegadjaaDoorCommand
namespace Go.Proofs.YtbdfjiobegadjaaDoor.Wr
open Go Go.RowKit Go.Proofs.YtbdfjiobegadjaaDoor.Tk Go.Proofs.YtbdfjiobegadjaaDoor.PWireMemory Go.Proofs.YtbdfjiobegadjaaDoorW.PrintWords Go.Proofs.YtbdfjiobegadjaaDoorW.PrintLast Go.Proofs.YtbdfjiobegadjaaDoorW.PrintMore
set_option linter.unusedVariables false
set_option linter.unusedSectionVars false
set_option linter.unusedSimpArgs false
theorem cell_below {w w' : World} {p : Addr} {v : Value} (h : w.cell? p = some v) (hb : Below w.drew.heap.size w.drew w') : w'.cell? p = some v := by
  have hlt : p.block < w.heap.size := by
    by_cases hl : p.block < w.heap.size
    · exact hl
    · exfalso
      simp only [World.cell?] at h
      rw [Array.getElem?_eq_none (by omega)] at h
      cases h
  rw [← h]
  simp only [World.cell?]
  rw [show w'.heap[p.block]? = w.heap[p.block]? from hb.block _ hlt]
set_option maxHeartbeats 2000000 in
set_option maxRecDepth 100000 in
theorem refcommand_any (W : World) (hT : Tab W.heap.size W) (A : Option Addr) (l : List ByteArray) (c : Nat) (hA : Kd.string.C W A l.length l) :
    Calls Tryd.prog 23 #[.slice A l.length c] W (CmdOk (cmdR l) W) := by
  have HT := Lib.hid hT
  have HA := Aside0.mk hA
  have hm := Kd.C_max hA
  clear hT hA
  by_cases h0 : l.length = 0
  · have HV := Aside0.mk (show cmdR l = .tuple #[.string ⟨#[]⟩, .int .i64 1] by unfold cmdR cmdE; rw [if_pos h0]; rfl)
    have h0i : ((l.length : Int) == 0) = true := by rw [h0]; rfl
    clear h0
    go_enter Tryd.func23, Tryd.ntmps23
    go_wp2_with fail
    exact bodyPost_ret (v := .tuple #[.string ⟨#[]⟩, .int .i64 1]) (by simp [results, Tryd.results23, go_sem]) rfl ⟨by rw [HV.out], Below.refl _ _⟩
  · have h0i : ((l.length : Int) == 0) = false := by rw [beq_eq_false_iff_ne]; omega
    by_cases h16 : 16 < l.length
    · have HV := Aside0.mk (show cmdR l = .tuple #[.string ⟨#[]⟩, .int .i64 3] by unfold cmdR cmdE; rw [if_neg h0, if_pos h16]; rfl)
      have h16i : (16 : Int) < (l.length : Int) := by omega
      clear h0 h16
      go_enter Tryd.func23, Tryd.ntmps23
      go_wp2_with fail
      exact bodyPost_ret (v := .tuple #[.string ⟨#[]⟩, .int .i64 3]) (by simp [results, Tryd.results23, go_sem]) rfl ⟨by rw [HV.out], Below.refl _ _⟩
    · have h16i : ¬ (16 : Int) < (l.length : Int) := by omega
      go_enter Tryd.func23, Tryd.ntmps23
      go_wp2_with fail
      refine (itoa_any l.length (by omega) (by omega) _ (HT.out _ (Below.refl _ _))).mono ?_
      rintro e w1 ⟨rfl, hb1⟩
      have HB1 := Aside0.mk hb1
      clear hb1
      have hln := Lib.itoa_length_le (l.length : Int) (by omega) (by omega)
      have hk1 : 1 + (Lib.itoa l.length).length ≤ 9223372036854775807 := by omega
      have hk2 : 1 + (Lib.itoa l.length).length + 2 ≤ 9223372036854775807 := by omega
      go_wp2_with fail
      go_loopw [4, 5] (fun v4 v5 W' => ∃ (i : Nat) (t : ByteArray), v5 = .int .i64 i ∧ v4 = .string t ∧ i ≤ l.length ∧ (∀ j, j < i → (l.getD j ⟨#[]⟩).size ≤ 65536) ∧ Aside0 (Below W.heap.size W W') ∧
        Aside0 (t.data.toList = (42 :: (Lib.itoa l.length ++ [13, 10])) ++ (l.take i).flatMap bulkB)) (fun _ v5 _ => l.length - (intOf v5).toNat)
      case atStart => exact ⟨0, _, rfl, rfl, by omega, fun j hj => by omega, HB1, ⟨by simp⟩⟩
      case round =>
        obtain ⟨i, t, rfl, rfl, hi, hsz, HB, HW⟩ := hrel
        clear HB1 hk1 hk2
        by_cases hlt : i < l.length
        · have hlt' : (i : Int) < (l.length : Int) := by omega
          obtain ⟨a, rfl, ha⟩ := at_S (Kd.C_below HA.out HB.out) i hlt
          generalize hS : l.getD i ⟨#[]⟩ = s at ha
          have HS := Aside0.mk hS
          have HZ := Lib.hid hsz
          clear hS hsz
          by_cases hb : 65536 < s.size
          · have HV := Aside0.mk (show cmdR l = .tuple #[.string ⟨#[]⟩, .int .i64 3] by unfold cmdR; rw [cmdE_big h0 (by omega) hlt (by rw [HS.out]; exact hb)]; rfl)
            have hb' : (65536 : Int) < (s.size : Int) := by omega
            go_wp2_with fail
            exact bodyPost_ret (v := .tuple #[.string ⟨#[]⟩, .int .i64 3]) (by simp [results, Tryd.results23, go_sem]) rfl ⟨by rw [HV.out], HB.out⟩
          · have hb' : ¬ (65536 : Int) < (s.size : Int) := by omega
            have hpl := pre_len l i hi HZ.out
            have hts : t.size = 1 + (Lib.itoa l.length).length + 2 + ((l.take i).flatMap bulkB).length := by
              have := congrArg List.length HW.out
              simp only [List.length_append, List.length_cons, List.length_nil] at this
              have h2 : t.data.toList.length = t.size := by simp
              omega
            have hln2 := Lib.itoa_length_le (s.size : Int) (by omega) (by omega)
            have q1 : ¬ 9223372036854775807 < t.size + 1 := by omega
            have q2 : ¬ 9223372036854775807 < t.size + 1 + (Lib.itoa s.size).length := by omega
            have q3 : ¬ 9223372036854775807 < t.size + 1 + (Lib.itoa s.size).length + 2 := by omega
            have q4 : ¬ 9223372036854775807 < t.size + 1 + (Lib.itoa s.size).length + 2 + s.size := by omega
            have q5 : ¬ 9223372036854775807 < t.size + 1 + (Lib.itoa s.size).length + 2 + s.size + 2 := by omega
            have hs0 : -9223372036854775808 ≤ (s.size : Int) := by omega
            have hs1 : (s.size : Int) ≤ 9223372036854775807 := by omega
            clear hpl hts hln2 hln
            go_wp2_with fail
            go_region_law (go_simp; go_at_call 43; refine (itoa_any s.size hs0 hs1 _ (HT.out _ (by exact (below_drew HB.out)))).mono ?_; rintro e w2 ⟨rfl, hb2⟩; have HB2 := Aside0.mk ((below_drew HB.out).trans (hb2.mono (by have := HB.out.size; exact this))); have ha2 := cell_below ha hb2; clear hb2)
            all_goals
              go_wp2_with fail
              go_roundw
              case rel =>
                refine ⟨i + 1, _, by go_num, rfl, by omega, fun j hj => ?_, HB2, ⟨?_⟩⟩
                · by_cases hji : j < i
                  · exact HZ.out j hji
                  · obtain rfl : j = i := by omega
                    rw [HS.out]; omega
                · rw [take_snoc l i hlt, HS.out, ← List.append_assoc, ← HW.out]
                  simp [bulkB]
              case measure => simp [intOf]; omega
        · obtain rfl : i = l.length := by omega
          have hlt' : ¬ (l.length : Int) < (l.length : Int) := by omega
          have HV := Aside0.mk (show cmdR l = .tuple #[.string ⟨(cmdB l).toArray⟩, .int .i64 0] by unfold cmdR; rw [cmdE_none h0 (by omega) hsz])
          have HX := Aside0.mk (show t = ⟨(cmdB l).toArray⟩ by have := HW.out; rw [List.take_length] at this; cases t; simp [cmdB, ← this])
          go_wp2_with fail
          exact bodyPost_ret (v := .tuple #[.string t, .int .i64 0]) (by simp [results, Tryd.results23, go_sem]) rfl ⟨by rw [HV.out, HX.out], HB.out⟩
end Go.Proofs.YtbdfjiobegadjaaDoor.Wr
