/- The walk of the law's own 'line': the bytes that may stand in a status. -/
import Derived.Test.YtbdfjiobegadjaaDoorEnc
namespace Go.Proofs.YtbdfjiobegadjaaDoor.Wr
open Go Go.RowKit Go.Proofs.YtbdfjiobegadjaaDoor.Tk Go.Proofs.YtbdfjiobegadjaaDoor.PWireMemory Go.Proofs.YtbdfjiobegadjaaDoorW.PrintWords Go.Proofs.YtbdfjiobegadjaaDoorW.PrintLast Go.Proofs.YtbdfjiobegadjaaDoorW.PrintMore
set_option linter.unusedVariables false
set_option linter.unusedSectionVars false
set_option linter.unusedSimpArgs false
def mayB (c : Int) : Bool := decide (32 ≤ c) && decide (c ≠ 127)
/-- The bytes of s up to i that may stand in a line. -/
def keptB (s : ByteArray) : Nat → List Int
  | 0 => []
  | i + 1 => if mayB (bt s i) then keptB s i ++ [bt s i] else keptB s i
/-- What 'line' has when it stops. -/
def lineF (s : ByteArray) : Nat → Nat → List Int
  | 0, i => keptB s i
  | f + 1, i => if (keptB s i).length < 300 then lineF s f (i + 1) else keptB s i
def lineS (s : ByteArray) : ByteArray := strOfNums (lineF s s.size 0)
theorem lineF_stop (s : ByteArray) (f i : Nat) (h : ¬ (keptB s i).length < 300) : lineF s f i = keptB s i := by
  cases f with
  | zero => rfl
  | succ f => rw [lineF, if_neg h]
theorem lineF_next (s : ByteArray) (i : Nat) (hi : i < s.size) (h : (keptB s i).length < 300) : lineF s (s.size - i) i = lineF s (s.size - (i + 1)) (i + 1) := by
  obtain ⟨f, hf⟩ : ∃ f, s.size - i = f + 1 := ⟨s.size - i - 1, by omega⟩
  rw [hf, lineF, if_pos h, show s.size - (i + 1) = f by omega]
set_option maxRecDepth 100000 in
set_option maxHeartbeats 2000000 in
theorem line_walk (s : ByteArray) (hs : s.size ≤ 140737488351232) (W : World) : Calls Tryd.prog 46 #[.string s] W fun e w' => e = .returned (.string (lineS s)) ∧ Below W.heap.size W w' := by
  have HL := Lib.hid (show lineF s (s.size - 0) 0 = lineF s s.size 0 from rfl)
  go_enter Tryd.func46, Tryd.ntmps46
  go_wp2_with fail
  go_loopw [3, 4] (fun v3 v4 W' => ∃ i : Nat, v4 = .int .i64 i ∧ i ≤ s.size ∧ (keptB s i).length ≤ 300 ∧ lineF s (s.size - i) i = lineF s s.size 0 ∧ Aside0 ((Kd.int .u8).R 5 W' W.heap.size (fun _ => True) v3 (keptB s i)) ∧ Aside0 (Below W.heap.size W W')) (fun _ v4 _ => s.size - (intOf v4).toNat)
  case atStart => exact ⟨0, rfl, by omega, by simp [keptB], HL.out, ⟨Kd.R_nil _ _ _ _ _⟩, ⟨Below.refl _ _⟩⟩
  case round =>
    obtain ⟨i, rfl, hi, hk, hF, HR, HB⟩ := hrel
    obtain ⟨A, c, rfl⟩ := Kd.R_slice HR.out
    have HF := Aside0.mk hF
    clear hF
    by_cases hlt : i < s.size
    · have hlt' : (i : Int) < (s.size : Int) := by omega
      by_cases h3 : (keptB s i).length < 300
      · have h3' : ((keptB s i).length : Int) < 300 := by omega
        have hr := (s[i]).toNat_lt
        have hb := Lib.hid (bt_nat s i hlt)
        by_cases h32 : 32 ≤ ((s[i]).toNat : Int)
        · by_cases h127 : ((s[i]).toNat : Int) = 127
          · have h127b : (((s[i]).toNat : Int) != 127) = false := by rw [h127]; rfl
            have hks := Lib.hid (show keptB s (i + 1) = keptB s i by rw [keptB, hb.out, h127]; rfl)
            clear h127
            go_wp2_with fail
            go_roundw
            case rel => exact ⟨i + 1, by go_num, by omega, by rw [hks.out]; exact hk, by rw [← lineF_next s i hlt h3]; exact HF.out, by rw [hks.out]; exact HR, HB⟩
            case measure => simp [intOf]; omega
          · have h127b : (((s[i]).toNat : Int) != 127) = true := bne_iff_ne.mpr h127
            have hks := Lib.hid (show keptB s (i + 1) = keptB s i ++ [((s[i]).toNat : Int)] by rw [keptB, hb.out, if_pos (by simp [mayB, h32, h127])])
            clear h127
            go_wp2_with ((with_reducible refine gate_builtin (b := .append) (xs := #[.tmp 26, .tmp 30]) rfl ?_); at_builtin; refine Kd.R_append (Kd.int .u8) (w0 := W) W.heap.size rfl (.tmp 26) (.tmp 30) 90 5 (.int .u8 0) 1 rfl Tryd.underlying90 info5 rfl (by decide) (by omega) (.slice A (keptB s i).length c) (keptB s i) ((s[i]).toNat : Int) [.int .u8 ((s[i]).toNat : Int)] (fun _ => True) (fun _ => False) rfl rfl rfl (fun _ hk => hk.elim) (fun _ _ => trivial) HR.out HB.out HB.out.size (by omega) ?_; intro v5 w5 ho5 hb5 hg5 hat5; have HO5 := Aside0.mk ho5; have HB5 := Aside0.mk hb5; clear ho5 hb5 hg5 hat5)
            go_roundw
            case rel => exact ⟨i + 1, by go_num, by omega, by rw [hks.out]; simp; omega, by rw [← lineF_next s i hlt h3]; exact HF.out, by rw [hks.out]; exact HO5, HB5⟩
            case measure => simp [intOf]; omega
        · have hks := Lib.hid (show keptB s (i + 1) = keptB s i by rw [keptB, hb.out, if_neg (by simp [mayB]; omega)])
          go_wp2_with fail
          go_roundw
          case rel => exact ⟨i + 1, by go_num, by omega, by rw [hks.out]; exact hk, by rw [← lineF_next s i hlt h3]; exact HF.out, by rw [hks.out]; exact HR, HB⟩
          case measure => simp [intOf]; omega
      · have h3' : ¬ ((keptB s i).length : Int) < 300 := by omega
        have hcv := Kd.C_string Tryd.underlying90 Tryd.underlying5 Tryd.underlying9 (Kd.R_reads' HR.out).2.2 (c := c)
        go_wp2_with fail
        go_ret
        have e : lineS s = strOfNums (keptB s i) := by unfold lineS; rw [← HF.out, lineF_stop s _ i h3]
        exact ⟨(by rw [e]; rfl), HB.out⟩
    · have hlt' : ¬ (i : Int) < (s.size : Int) := by omega
      have hcv := Kd.C_string Tryd.underlying90 Tryd.underlying5 Tryd.underlying9 (Kd.R_reads' HR.out).2.2 (c := c)
      go_wp2_with fail
      go_ret
      have e : lineS s = strOfNums (keptB s i) := by unfold lineS; rw [← HF.out, show s.size - i = 0 by omega, lineF]
      exact ⟨(by rw [e]; rfl), HB.out⟩
theorem keptB_ok (s : ByteArray) : ∀ i, ∀ c ∈ keptB s i, 32 ≤ c ∧ c ≤ 255 ∧ c ≠ 127
  | 0, c, h => by simp [keptB] at h
  | i + 1, c, h => by
    rw [keptB] at h
    split at h
    · rename_i hm
      rcases List.mem_append.1 h with h | h
      · exact keptB_ok s i c h
      · simp at h
        subst h
        have := bt_range s i
        simp [mayB] at hm
        omega
    · exact keptB_ok s i c h
theorem lineF_ok (s : ByteArray) : ∀ (f i : Nat), (keptB s i).length ≤ 300 → (lineF s f i).length ≤ 300 ∧ ∀ c ∈ lineF s f i, 32 ≤ c ∧ c ≤ 255 ∧ c ≠ 127
  | 0, i, h => ⟨h, keptB_ok s i⟩
  | f + 1, i, h => by
    rw [lineF]
    split
    · rename_i h3
      refine lineF_ok s f (i + 1) ?_
      rw [keptB]
      split
      · simp; omega
      · omega
    · exact ⟨h, keptB_ok s i⟩
theorem lineS_ok (s : ByteArray) : lineOk (lineS s) ∧ (lineS s).size ≤ 300 := by
  obtain ⟨h1, h2⟩ := lineF_ok s s.size 0 (by simp [keptB])
  have hsz : (lineS s).size = (lineF s s.size 0).length := by
    show ((lineF s s.size 0).map _).toArray.size = _
    rw [List.size_toArray, List.length_map]
  refine ⟨⟨by omega, fun i hi => ?_⟩, by omega⟩
  have hi' : i < (lineF s s.size 0).length := by omega
  have hget : (lineS s)[i] = UInt8.ofNat ((lineF s s.size 0)[i]).toNat := by
    show ((lineF s s.size 0).map (fun n => UInt8.ofNat n.toNat)).toArray[i]'(by rw [List.size_toArray, List.length_map]; exact hi') = _
    rw [List.getElem_toArray, List.getElem_map]
  have := h2 _ (List.getElem_mem hi')
  rw [hget, UInt8.toNat_ofNat']
  omega
end Go.Proofs.YtbdfjiobegadjaaDoor.Wr
/- The walks of copsekit.Head with 300, and of copsekit.Pick. -/
namespace Go.Proofs.YtbdfjiobegadjaaDoor.Wr
open Go Go.RowKit Go.Proofs.YtbdfjiobegadjaaDoor.Tk Go.Proofs.YtbdfjiobegadjaaDoor.PWireMemory Go.Proofs.YtbdfjiobegadjaaDoorW.PrintWords Go.Proofs.YtbdfjiobegadjaaDoorW.PrintLast Go.Proofs.YtbdfjiobegadjaaDoorW.PrintMore
set_option linter.unusedVariables false
set_option linter.unusedSectionVars false
set_option linter.unusedSimpArgs false
def headF (s : ByteArray) : ByteArray := if s.size ≤ 300 then s else s.extract 0 300
theorem headF_size (s : ByteArray) : (headF s).size ≤ 300 := by
  unfold headF
  split
  · omega
  · simp; omega
theorem head_walk (s : ByteArray) (W : World) : Calls Tryd.prog 47 #[.string s, .int .i64 300] W fun e w' => e = .returned (.string (headF s)) ∧ w' = W := by
  by_cases h : s.size ≤ 300
  · have e : headF s = s := if_pos h
    have h' : (s.size : Int) ≤ 300 := by omega
    go_enter Tryd.func47, Tryd.ntmps47
    go_wp2_with fail
    go_ret
    exact ⟨(by first | rfl | (rw [e]; rfl)), rfl⟩
  · have e : headF s = s.extract 0 300 := if_neg h
    have h' : ¬ (s.size : Int) ≤ 300 := by omega
    have h2 : (300 : Int) ≤ (s.size : Int) := by omega
    go_enter Tryd.func47, Tryd.ntmps47
    go_wp2_with fail
    go_ret
    exact ⟨(by first | rfl | (rw [e]; rfl)), rfl⟩
def pickF (k n : Int) : Int := if Int.tmod k n < 0 then Int.tmod k n + n else Int.tmod k n
theorem pickF_range (k n : Int) (hn : 1 ≤ n) : 0 ≤ pickF k n ∧ pickF k n < n := by
  have h1 := Int.tmod_lt_of_pos k (show 0 < n by omega)
  have h2 : -n < Int.tmod k n := by
    have := Int.lt_tmod_of_pos k (show 0 < n by omega)
    omega
  unfold pickF
  split <;> omega
set_option maxRecDepth 100000 in
theorem pick_walk (k n : Int) (hn : 1 ≤ n) (hm : n ≤ 9223372036854775807) (W : World) : Calls Tryd.prog 16 #[.int .i64 k, .int .i64 n] W fun e w' => e = .returned (.int .i64 (pickF k n)) ∧ w' = W := by
  have h1 : ¬ n < 1 := by omega
  have h0 : (n == 0) = false := by rw [beq_eq_false_iff_ne]; omega
  have hn0 : ¬ n = 0 := by omega
  have hr := pickF_range k n hn
  have hlt := Int.tmod_lt_of_pos k (show 0 < n by omega)
  by_cases hneg : Int.tmod k n < 0
  · have e : pickF k n = Int.tmod k n + n := if_pos hneg
    rw [e] at hr
    go_enter Tryd.func16, Tryd.ntmps16
    go_wp2_with fail
    go_ret
    exact ⟨rfl, rfl⟩
  · have e : pickF k n = Int.tmod k n := if_neg hneg
    go_enter Tryd.func16, Tryd.ntmps16
    go_wp2_with fail
    go_ret
    exact ⟨rfl, rfl⟩
end Go.Proofs.YtbdfjiobegadjaaDoor.Wr
