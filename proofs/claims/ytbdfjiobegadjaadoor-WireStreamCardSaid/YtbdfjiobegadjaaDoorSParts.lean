/- Parts for the law of the stream: readers made and fed, texts compared, a place picked. -/
import Derived.Test.YtbdfjiobegadjaaDoorSReadN
import Derived.Test.YtbdfjiobegadjaaDoorSCommand
import Derived.Test.YtbdfjiobegadjaaDoorOpens
import Derived.LaidEqlPtr
set_option linter.unusedVariables false
set_option linter.unusedSectionVars false
set_option linter.unusedSimpArgs false
namespace Go.Proofs.YtbdfjiobegadjaaDoor.Rf
open Go Go.RowKit Go.Proofs.YtbdfjiobegadjaaDoor.Op Go.Proofs.YtbdfjiobegadjaaDoor.Tk Go.Proofs.YtbdfjiobegadjaaDoor.Rd Go.Proofs.YtbdfjiobegadjaaDoor.Wr Go.Proofs.YtbdfjiobegadjaaDoor.PWireMemory Go.Proofs.YtbdfjiobegadjaaDoorW.PrintWords Go.Proofs.YtbdfjiobegadjaaDoorW.PrintLast Go.Proofs.YtbdfjiobegadjaaDoorW.PrintMore
theorem feed_good (W : World) (base b : Nat) (dom : Nat → Prop) (s d : ByteArray) (st : St) (hl : s.size + d.size ≤ 140737488351232) (h : Rep W base dom b s st) :
    Calls Tryd.prog 17 #[.pointer (some ⟨b, 0, none⟩), .string d] W fun e w' => e = .returned (.tuple #[]) ∧ Rep w' base dom b (s ++ d) st ∧ w' = W.setCell ⟨b, 0, none⟩ (.string (s ++ d)) := by
  obtain ⟨v3, v4, v5, v6, v7, v8, v9, hr, hi⟩ := h
  obtain ⟨⟨r0, r1, r2, r3, r4, r5, r6, r7, r8, r9⟩, rf⟩ := hr.cells
  have HR := Aside0.mk hr
  have HI := Aside0.mk hi
  have f0 := rf 0
  have hlt := blk_lt hr
  have k1 : ¬ (9223372036854775807 : Int) < ((s.size : Int) + (d.size : Int)) := by omega
  clear hr hi r2 r3 r4 r5 r6 r7 r8 r9 rf
  go_enter Tryd.func17, Tryd.ntmps17
  go_wp2
  go_end0
  exact ⟨rfl, ⟨v3, v4, v5, v6, v7, v8, v9, blk_set HR.out 0 _, stin_set HI.out HR.out 0 _⟩, rfl⟩
theorem new_any (W : World) : Calls Tryd.prog 14 #[] W fun e w' => e = .returned (.pointer (some ⟨W.heap.size, 0, none⟩)) ∧ w' = (W.alloc (.cells #[.string ⟨#[]⟩, .nilIface, mv 37 W.heap.size, .nilFunc, .int .i64 0, .int .i64 0, .int .i64 0, .int .i64 0, .slice none 0 0, .slice none 0 0] 92)) := by
  have hmf := mf
  go_enter Tryd.func14, Tryd.ntmps14
  go_wp2
  go_ret
  exact ⟨rfl, by first | rfl | (simp; done)⟩
theorem infoStr : (Tryd.prog.info? 9).map (fun i => (i.zero, i.size, i.bytes)) = some (some (.string ⟨#[]⟩), 1, 16) := by kernel_rfl
set_option maxHeartbeats 1000000 in
theorem same_strings (l : List ByteArray) (W : World) (A B : Option Addr) (c d : Nat) (hA : Kd.string.C W A l.length l) (hB : Kd.string.C W B l.length l) :
    Calls Tryd.prog 21 #[.slice A l.length c, .slice B l.length d] W fun e w' => e = .returned (.bool true) ∧ Below W.heap.size W w' := by
  have HA := Aside0.mk hA
  have HB := Aside0.mk hB
  have hm := Kd.C_max hA
  clear hA hB
  go_enter Tryd.func21, Tryd.ntmps21
  go_wp2_with fail
  go_loopw [5] (fun v5 W' => ∃ i : Nat, v5 = .int .i64 i ∧ i ≤ l.length ∧ Aside0 (Below W.heap.size W W')) (fun v5 _ => l.length - (intOf v5).toNat)
  case atStart => exact ⟨0, rfl, by omega, ⟨Below.refl _ _⟩⟩
  case round =>
    obtain ⟨i, rfl, hi, HW⟩ := hrel
    by_cases hlt : i < l.length
    · have hlt' : (i : Int) < (l.length : Int) := by omega
      obtain ⟨a, rfl, ha⟩ := at_S (Kd.C_below HA.out HW.out) i hlt
      obtain ⟨b, rfl, hb⟩ := at_S (Kd.C_below HB.out HW.out) i hlt
      generalize l.getD i ⟨#[]⟩ = s at ha hb
      go_wp2_with fail
      go_quiet (fail)
      go_wp2_with fail
      go_roundw
      case rel => exact ⟨i + 1, by go_num, by omega, ⟨pw_below_drewN HW.out _⟩⟩
      case measure => simp [intOf]; omega
    · have hlt' : ¬ (i : Int) < (l.length : Int) := by omega
      go_wp2_with fail
      go_ret
      exact ⟨rfl, HW.out⟩
def pickF (k n : Int) : Int := if Int.tmod k n < 0 then Int.tmod k n + n else Int.tmod k n
theorem pickF_range (k n : Int) (hn : 1 ≤ n) : 0 ≤ pickF k n ∧ pickF k n < n := by
  have h1 := Int.tmod_lt_of_pos k (show 0 < n by omega)
  have h2 : -n < Int.tmod k n := by
    have := Int.lt_tmod_of_pos k (show 0 < n by omega)
    omega
  unfold pickF
  split <;> omega
set_option maxRecDepth 100000 in
theorem pick_walk (k n : Int) (hn : 1 ≤ n) (hm : n ≤ 9223372036854775807) (W : World) : Calls Tryd.prog 16 #[.int .i64 k, .int .i64 n] W fun e w' => e = .returned (.int .i64 (pickF k n)) ∧ w' = W := by
  have h1 : ¬ n < 1 := by omega
  have h0 : (n == 0) = false := by rw [beq_eq_false_iff_ne]; omega
  have hn0 : ¬ n = 0 := by omega
  have hr := pickF_range k n hn
  have hlt := Int.tmod_lt_of_pos k (show 0 < n by omega)
  by_cases hneg : Int.tmod k n < 0
  · have e : pickF k n = Int.tmod k n + n := if_pos hneg
    rw [e] at hr
    go_enter Tryd.func16, Tryd.ntmps16
    go_wp2_with fail
    go_ret
    exact ⟨rfl, rfl⟩
  · have e : pickF k n = Int.tmod k n := if_neg hneg
    go_enter Tryd.func16, Tryd.ntmps16
    go_wp2_with fail
    go_ret
    exact ⟨rfl, rfl⟩
theorem en_here {W : World} {ad : Nat → Addr} (h : Errs W ad) : EN W.heap.size W ad := by
  refine ⟨h, ?_, fun i hi => by obtain ⟨c, t, hb⟩ := h.blk i hi; exact blk_lt hb⟩
  have := h.cell 2 (by omega)
  by_cases hl : 3 ≤ W.heap.size
  · exact hl
  · exfalso
    simp only [World.cell?] at this
    rw [Array.getElem?_eq_none (by omega)] at this
    cases this
theorem runF_ok {s : ByteArray} : ∀ {f i : Nat} {st st' : St}, st.ok → runF s f i st = .more st' → st'.ok
  | 0, _, st, st', h, e => by cases e; exact h
  | f + 1, i, st, st', h, e => by
    rw [runF] at e
    split at e
    · rename_i st1 h1
      exact runF_ok (stepF_ok (bt_range s i) h h1) e
    · cases e
    · cases e
end Go.Proofs.YtbdfjiobegadjaaDoor.Rf
namespace Go.Proofs.YtbdfjiobegadjaaDoor.Wr
open Go Go.RowKit Go.Proofs.YtbdfjiobegadjaaDoor.Rf Go.Proofs.YtbdfjiobegadjaaDoor.Op Go.Proofs.YtbdfjiobegadjaaDoor.Tk Go.Proofs.YtbdfjiobegadjaaDoor.Rd Go.Proofs.YtbdfjiobegadjaaDoor.Wr Go.Proofs.YtbdfjiobegadjaaDoor.PWireMemory Go.Proofs.YtbdfjiobegadjaaDoorW.PrintWords Go.Proofs.YtbdfjiobegadjaaDoorW.PrintLast Go.Proofs.YtbdfjiobegadjaaDoorW.PrintMore
theorem tab_up {W W' : World} (h : Tab W.heap.size W) (hb : Below W.heap.size W W') : Tab W'.heap.size W' := fun w hw => h w (hb.trans (hw.mono hb.size))
theorem errs_on {W W' : World} {ad : Nat → Addr} (h : Errs W ad) (hb : Below W.heap.size W W') : Errs W' ad := ((en_here h).below hb).errs
theorem tab_on {W W' : World} (h : Tab W.heap.size W) (hb : Below W.heap.size W W') : Tab W'.heap.size W' := fun w hw => h w (hb.trans (hw.mono hb.size))
end Go.Proofs.YtbdfjiobegadjaaDoor.Wr
