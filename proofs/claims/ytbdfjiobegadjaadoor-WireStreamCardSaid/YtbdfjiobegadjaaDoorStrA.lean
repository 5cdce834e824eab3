/- The walks of the law's own 'plain', of copsekit.Head with 65536, and what they compute. -/
import Derived.Test.YtbdfjiobegadjaaDoorSParts
namespace Go.Proofs.YtbdfjiobegadjaaDoor.Wr
open Go Go.RowKit Go.Proofs.YtbdfjiobegadjaaDoor.Rf Go.Proofs.YtbdfjiobegadjaaDoor.Rd Go.Proofs.YtbdfjiobegadjaaDoor.Tk Go.Proofs.YtbdfjiobegadjaaDoor.PWireMemory Go.Proofs.YtbdfjiobegadjaaDoorW.PrintWords Go.Proofs.YtbdfjiobegadjaaDoorW.PrintLast Go.Proofs.YtbdfjiobegadjaaDoorW.PrintMore
set_option linter.unusedVariables false
set_option linter.unusedSectionVars false
set_option linter.unusedSimpArgs false
def mayP (c : Int) : Bool := decide (32 < c) && decide (c ≠ 127)
def keptP (s : ByteArray) : Nat → List Int
  | 0 => []
  | i + 1 => if mayP (bt s i) then keptP s i ++ [bt s i] else keptP s i
def plF (s : ByteArray) : Nat → Nat → List Int
  | 0, i => keptP s i
  | f + 1, i => if (keptP s i).length < 200 then plF s f (i + 1) else keptP s i
/-- The bytes of a plain line's word. -/
def plN (s : ByteArray) : List Int := if plF s s.size 0 = [] then [119] else plF s s.size 0
def plainS (s : ByteArray) : ByteArray := strOfNums (plN s)
theorem plF_stop (s : ByteArray) (f i : Nat) (h : ¬ (keptP s i).length < 200) : plF s f i = keptP s i := by
  cases f with
  | zero => rfl
  | succ f => rw [plF, if_neg h]
theorem plF_next (s : ByteArray) (i : Nat) (hi : i < s.size) (h : (keptP s i).length < 200) : plF s (s.size - i) i = plF s (s.size - (i + 1)) (i + 1) := by
  obtain ⟨f, hf⟩ : ∃ f, s.size - i = f + 1 := ⟨s.size - i - 1, by omega⟩
  rw [hf, plF, if_pos h, show s.size - (i + 1) = f by omega]
theorem plN_at (s : ByteArray) (l : List Int) (h : plF s s.size 0 = l) (hl : l.length ≠ 0) : plainS s = strOfNums l := by
  unfold plainS plN
  rw [h, if_neg (by rintro rfl; exact hl rfl)]
theorem plN_no (s : ByteArray) (l : List Int) (h : plF s s.size 0 = l) (hl : l.length = 0) : plainS s = ⟨#[119]⟩ := by
  unfold plainS plN
  rw [h, if_pos (List.eq_nil_of_length_eq_zero hl)]
  rfl
set_option maxRecDepth 100000 in
set_option maxHeartbeats 4000000 in
theorem plain_walk (s : ByteArray) (hs : s.size ≤ 140737488351232) (W : World) : Calls Tryd.prog 49 #[.string s] W fun e w' => e = .returned (.string (plainS s)) ∧ Below W.heap.size W w' := by
  have HL := Lib.hid (show plF s (s.size - 0) 0 = plF s s.size 0 from rfl)
  go_enter Tryd.func49, Tryd.ntmps49
  go_wp2_with fail
  go_loopw [3, 4] (fun v3 v4 W' => ∃ i : Nat, v4 = .int .i64 i ∧ i ≤ s.size ∧ (keptP s i).length ≤ 200 ∧ plF s (s.size - i) i = plF s s.size 0 ∧ Aside0 ((Kd.int .u8).R 5 W' W.heap.size (fun _ => True) v3 (keptP s i)) ∧ Aside0 (Below W.heap.size W W')) (fun _ v4 _ => s.size - (intOf v4).toNat)
  case atStart => exact ⟨0, rfl, by omega, by simp [keptP], HL.out, ⟨Kd.R_nil _ _ _ _ _⟩, ⟨Below.refl _ _⟩⟩
  case round =>
    obtain ⟨i, rfl, hi, hk, hF, HR, HB⟩ := hrel
    obtain ⟨A, c, rfl⟩ := Kd.R_slice HR.out
    have HF := Aside0.mk hF
    clear hF
    by_cases hlt : i < s.size
    · have hlt' : (i : Int) < (s.size : Int) := by omega
      by_cases h3 : (keptP s i).length < 200
      · have h3' : ((keptP s i).length : Int) < 200 := by omega
        have hr := (s[i]).toNat_lt
        have hb := Lib.hid (bt_nat s i hlt)
        by_cases h32 : 32 < ((s[i]).toNat : Int)
        · by_cases h127 : ((s[i]).toNat : Int) = 127
          · have h127b : (((s[i]).toNat : Int) != 127) = false := by rw [h127]; rfl
            have hks := Lib.hid (show keptP s (i + 1) = keptP s i by rw [keptP, hb.out, h127]; rfl)
            clear h127
            go_wp2_with fail
            go_roundw
            case rel => exact ⟨i + 1, by go_num, by omega, by rw [hks.out]; exact hk, by rw [← plF_next s i hlt h3]; exact HF.out, by rw [hks.out]; exact HR, HB⟩
            case measure => simp [intOf]; omega
          · have h127b : (((s[i]).toNat : Int) != 127) = true := bne_iff_ne.mpr h127
            have hks := Lib.hid (show keptP s (i + 1) = keptP s i ++ [((s[i]).toNat : Int)] by rw [keptP, hb.out, if_pos (by simp [mayP, h32, h127])])
            clear h127
            go_wp2_with ((with_reducible refine gate_builtin (b := .append) (xs := #[.tmp 26, .tmp 30]) rfl ?_); at_builtin; refine Kd.R_append (Kd.int .u8) (w0 := W) W.heap.size rfl (.tmp 26) (.tmp 30) 90 5 (.int .u8 0) 1 rfl Tryd.underlying90 info5 rfl (by decide) (by omega) (.slice A (keptP s i).length c) (keptP s i) ((s[i]).toNat : Int) [.int .u8 ((s[i]).toNat : Int)] (fun _ => True) (fun _ => False) rfl rfl rfl (fun _ hk => hk.elim) (fun _ _ => trivial) HR.out HB.out HB.out.size (by omega) ?_; intro v5 w5 ho5 hb5 hg5 hat5; have HO5 := Aside0.mk ho5; have HB5 := Aside0.mk hb5; clear ho5 hb5 hg5 hat5)
            go_roundw
            case rel => exact ⟨i + 1, by go_num, by omega, by rw [hks.out]; simp; omega, by rw [← plF_next s i hlt h3]; exact HF.out, by rw [hks.out]; exact HO5, HB5⟩
            case measure => simp [intOf]; omega
        · have hks := Lib.hid (show keptP s (i + 1) = keptP s i by rw [keptP, hb.out, if_neg (by simp [mayP]; omega)])
          go_wp2_with fail
          go_roundw
          case rel => exact ⟨i + 1, by go_num, by omega, by rw [hks.out]; exact hk, by rw [← plF_next s i hlt h3]; exact HF.out, by rw [hks.out]; exact HR, HB⟩
          case measure => simp [intOf]; omega
      · have h3' : ¬ ((keptP s i).length : Int) < 200 := by omega
        have hne : (((keptP s i).length : Int) == 0) = false := by rw [beq_eq_false_iff_ne]; omega
        have hcv := Kd.C_string Tryd.underlying90 Tryd.underlying5 Tryd.underlying9 (Kd.R_reads' HR.out).2.2 (c := c)
        go_wp2_with fail
        go_ret
        have e := plN_at s (keptP s i) (by rw [← HF.out, plF_stop s _ i h3]) (by omega)
        exact ⟨(by rw [e]; rfl), HB.out⟩
    · have hlt' : ¬ (i : Int) < (s.size : Int) := by omega
      have e0 : plF s s.size 0 = keptP s i := by rw [← HF.out, show s.size - i = 0 by omega, plF]
      by_cases hz : (keptP s i).length = 0
      · have hne : (((keptP s i).length : Int) == 0) = true := by rw [hz]; rfl
        have e := Lib.hid (plN_no s (keptP s i) e0 hz)
        clear hz e0
        go_wp2_with fail
        go_ret
        exact ⟨(by rw [e.out]; rfl), HB.out⟩
      · have hne : (((keptP s i).length : Int) == 0) = false := by rw [beq_eq_false_iff_ne]; omega
        have hcv := Kd.C_string Tryd.underlying90 Tryd.underlying5 Tryd.underlying9 (Kd.R_reads' HR.out).2.2 (c := c)
        have e := Lib.hid (plN_at s (keptP s i) e0 hz)
        clear hz e0
        go_wp2_with fail
        go_ret
        exact ⟨(by rw [e.out]; rfl), HB.out⟩
theorem keptP_ok (s : ByteArray) : ∀ i, ∀ c ∈ keptP s i, 32 < c ∧ c ≤ 255 ∧ c ≠ 127
  | 0, c, h => by simp [keptP] at h
  | i + 1, c, h => by
    rw [keptP] at h
    split at h
    · rename_i hm
      rcases List.mem_append.1 h with h | h
      · exact keptP_ok s i c h
      · simp at h
        subst h
        have := bt_range s i
        simp [mayP] at hm
        omega
    · exact keptP_ok s i c h
theorem plF_ok (s : ByteArray) : ∀ (f i : Nat), (keptP s i).length ≤ 200 → (plF s f i).length ≤ 200 ∧ ∀ c ∈ plF s f i, 32 < c ∧ c ≤ 255 ∧ c ≠ 127
  | 0, i, h => ⟨h, keptP_ok s i⟩
  | f + 1, i, h => by
    rw [plF]
    split
    · rename_i h3
      refine plF_ok s f (i + 1) ?_
      rw [keptP]
      split
      · simp; omega
      · omega
    · exact ⟨h, keptP_ok s i⟩
theorem plN_ok (s : ByteArray) : plN s ≠ [] ∧ (plN s).length ≤ 200 ∧ ∀ c ∈ plN s, 32 < c ∧ c ≤ 255 ∧ c ≠ 127 := by
  obtain ⟨h1, h2⟩ := plF_ok s s.size 0 (by simp [keptP])
  unfold plN
  split
  · exact ⟨by simp, by simp, by simp⟩
  · exact ⟨by assumption, h1, h2⟩
/-- copsekit.Head with MaxText. -/
def headM (s : ByteArray) : ByteArray := if s.size ≤ 65536 then s else s.extract 0 65536
theorem headM_size (s : ByteArray) : (headM s).size ≤ 65536 := by
  unfold headM
  split
  · omega
  · simp; omega
theorem headM_walk (s : ByteArray) (W : World) : Calls Tryd.prog 47 #[.string s, .int .i64 65536] W fun e w' => e = .returned (.string (headM s)) ∧ w' = W := by
  by_cases h : s.size ≤ 65536
  · have e : headM s = s := if_pos h
    have h' : (s.size : Int) ≤ 65536 := by omega
    go_enter Tryd.func47, Tryd.ntmps47
    go_wp2_with fail
    go_ret
    exact ⟨(by first | rfl | (rw [e]; rfl)), rfl⟩
  · have e : headM s = s.extract 0 65536 := if_neg h
    have h' : ¬ (s.size : Int) ≤ 65536 := by omega
    have h2 : (65536 : Int) ≤ (s.size : Int) := by omega
    go_enter Tryd.func47, Tryd.ntmps47
    go_wp2_with fail
    go_ret
    exact ⟨(by first | rfl | (rw [e]; rfl)), rfl⟩
end Go.Proofs.YtbdfjiobegadjaaDoor.Wr
