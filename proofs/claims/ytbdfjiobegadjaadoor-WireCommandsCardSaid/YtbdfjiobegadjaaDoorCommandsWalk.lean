/- The walk of the law: what wire.Command and the document's Command answer is compared, and is the same. -/
import Derived.Test.YtbdfjiobegadjaaDoorCommand2
import Derived.Test.YtbdfjiobegadjaaDoorNum
namespace Go.Proofs.YtbdfjiobegadjaaDoor.Wr
open Go Go.RowKit Go.Proofs.YtbdfjiobegadjaaDoor.Tk Go.Proofs.YtbdfjiobegadjaaDoor.PWireMemory Go.Proofs.YtbdfjiobegadjaaDoorW.PrintWords Go.Proofs.YtbdfjiobegadjaaDoorW.PrintLast Go.Proofs.YtbdfjiobegadjaaDoorW.PrintMore
set_option linter.unusedVariables false
set_option linter.unusedSectionVars false
set_option linter.unusedSimpArgs false
theorem infoStr : (Tryd.prog.info? 9).map (fun i => (i.zero, i.size, i.bytes)) = some (some (.string ⟨#[]⟩), 1, 16) := by kernel_rfl
set_option maxHeartbeats 1000000 in
theorem same_strings (l : List ByteArray) (W : World) (A B : Option Addr) (c d : Nat) (hA : Kd.string.C W A l.length l) (hB : Kd.string.C W B l.length l) :
    Calls Tryd.prog 21 #[.slice A l.length c, .slice B l.length d] W fun e w' => e = .returned (.bool true) ∧ Below W.heap.size W w' := by
  have HA := Aside0.mk hA
  have HB := Aside0.mk hB
  have hm := Kd.C_max hA
  clear hA hB
  go_enter Tryd.func21, Tryd.ntmps21
  go_wp2_with fail
  go_loopw [5] (fun v5 W' => ∃ i : Nat, v5 = .int .i64 i ∧ i ≤ l.length ∧ Aside0 (Below W.heap.size W W')) (fun v5 _ => l.length - (intOf v5).toNat)
  case atStart => exact ⟨0, rfl, by omega, ⟨Below.refl _ _⟩⟩
  case round =>
    obtain ⟨i, rfl, hi, HW⟩ := hrel
    by_cases hlt : i < l.length
    · have hlt' : (i : Int) < (l.length : Int) := by omega
      obtain ⟨a, rfl, ha⟩ := at_S (Kd.C_below HA.out HW.out) i hlt
      obtain ⟨b, rfl, hb⟩ := at_S (Kd.C_below HB.out HW.out) i hlt
      generalize l.getD i ⟨#[]⟩ = s at ha hb
      go_wp2_with fail
      go_quiet (fail)
      go_wp2_with fail
      go_roundw
      case rel => exact ⟨i + 1, by go_num, by omega, ⟨pw_below_drewN HW.out _⟩⟩
      case measure => simp [intOf]; omega
    · have hlt' : ¬ (i : Int) < (l.length : Int) := by omega
      go_wp2_with fail
      go_ret
      exact ⟨rfl, HW.out⟩
abbrev mk4 : List ByteArray := [⟨#[109, 97, 114, 107]⟩, ⟨#[109, 97, 114, 107]⟩, ⟨#[109, 97, 114, 107]⟩, ⟨#[109, 97, 114, 107]⟩]
abbrev mkO : Obj := .cells #[.string ⟨#[109, 97, 114, 107]⟩, .string ⟨#[109, 97, 114, 107]⟩, .string ⟨#[109, 97, 114, 107]⟩, .string ⟨#[109, 97, 114, 107]⟩] 9
theorem lit_C (W : World) : Kd.string.C (W.alloc mkO) (some ⟨W.heap.size, 0, none⟩) 4 mk4 := by
  refine ⟨rfl, by omega, fun _ => ⟨_, rfl, fun j p hj => ?_⟩⟩
  have h0 := (MapKept.heap_alloc W mkO).1
  refine ⟨[.string p], rfl, rfl, fun i u hi => ?_⟩
  obtain rfl : i = 0 := by
    cases i with
    | zero => rfl
    | succ i => simp at hi
  have hu : u = .string p := by simpa using hi.symm
  subst hu
  have := blk_cell h0 j
  rw [show Kd.string.sz = 1 from rfl, show Addr.add ⟨W.heap.size, 0, none⟩ (j * 1 + 0) = ⟨W.heap.size, j, none⟩ by simp [Addr.add]; intro h; exact h.symm, this]
  match j, hj with
  | 0, hj => simp at hj; subst hj; rfl
  | 1, hj => simp at hj; subst hj; rfl
  | 2, hj => simp at hj; subst hj; rfl
  | 3, hj => simp at hj; subst hj; rfl
  | j + 4, hj => simp at hj
theorem kind_of {ad : Nat → Addr} (l : List ByteArray) : ∃ (t : ByteArray) (v : Value) (n : Int), cmdV ad l = .tuple #[.string t, v] ∧ cmdR l = .tuple #[.string t, .int .i64 n] ∧
    ∀ (W : World), Errs W ad → Calls Tryd.prog 13 #[v] W (KNumOk n W) := by
  cases h : cmdE l with
  | none => exact ⟨_, _, _, by unfold cmdV; rw [h], by unfold cmdR; rw [h], fun W _ => knum_nil W⟩
  | some k =>
    refine ⟨_, _, _, by unfold cmdV; rw [h], by unfold cmdR; rw [h], fun W hE => knum_any W ad hE k ?_⟩
    unfold cmdE at h
    split at h
    · cases h; omega
    · split at h
      · cases h; omega
      · split at h
        · cases h; omega
        · cases h
theorem tab_up {W W' : World} (h : Tab W.heap.size W) (hb : Below W.heap.size W W') : Tab W'.heap.size W' := fun w hw => h w (hb.trans (hw.mono hb.size))
theorem take_C {w : World} {A : Option Addr} {l : List ByteArray} (h : Kd.string.C w A (l ++ mk4).length (l ++ mk4)) : Kd.string.C w A l.length l := by
  have := Kd.C_take (m := l.length) h (by simp)
  rwa [List.take_left] at this
theorem drop_C {w : World} {A : Option Addr} {l : List ByteArray} {c : Nat} (h : Kd.string.C w A (l ++ mk4).length (l ++ mk4)) (hc : (l ++ mk4).length ≤ c) : Kd.string.C w (A.map (fun x => x.add l.length)) 4 mk4 := by
  have := Kd.C_drop (m := l.length) h (by simp) hc
  rw [List.drop_left, show l.length * Kd.string.sz = l.length from Nat.mul_one _, if_neg (by simp at hc; omega)] at this
  exact this
set_option maxHeartbeats 2000000 in
theorem walk_commands (l : List ByteArray) (A : Option Addr) (c : Nat) (W : World) (ad : Nat → Addr) (hE : Errs W ad) (hT : Tab W.heap.size W) (hA : Kd.string.C W A l.length l) (hl : l.length * 16 ≤ 140737488351232) (hc : l.length ≤ c) :
    Calls Tryd.prog 5 #[.slice A l.length c] W fun e w' => e = .returned (.bool true) ∧ Below W.heap.size W w' := by
  obtain ⟨t, v, n, hV, hR, hN⟩ := kind_of (ad := ad) l
  have HV := Aside0.mk hV
  have HR := Aside0.mk hR
  have HN := Lib.hid hN
  have HE := Aside0.mk hE
  have HT := Lib.hid hT
  have HA := Aside0.mk hA
  have hm := Kd.C_max hA
  clear hV hR hN hE hT hA
  go_enter Tryd.func5, Tryd.ntmps5
  go_wp2_with (first | ((with_reducible refine gate_builtin (b := .append) (xs := #[.tmp 10, .tmp 11]) rfl ?_); at_builtin; refine Kd.R_append_rows Kd.string (w0 := W) W.heap.size rfl (.tmp 10) (.tmp 11) 45 9 (.string ⟨#[]⟩) 16 rfl Tryd.underlying45 infoStr rfl (by decide) (by omega) (.slice none 0 0) [] l A l.length c (fun _ => True) (fun _ => False) rfl rfl (Kd.R_nil _ _ _ _ _) HA.out (fun x cs h => h) (fun k hk => hk.elim) (fun _ _ => trivial) (Below.refl _ _) (Nat.le_refl _) (by simp; omega) ?_; intro v1 w1 ho1 hb1 hg1 hat1; obtain ⟨A1, c1, e1⟩ := Kd.R_slice ho1; subst e1; have HO1 := Aside0.mk (show Kd.string.R 9 w1 W.heap.size (fun _ => True) (.slice A1 l.length c1) l from ho1); have HB1 := Aside0.mk hb1; clear ho1 hb1 hg1 hat1) | ((with_reducible refine gate_builtin (b := .append) (xs := #[.tmp 13, .tmp 14]) rfl ?_); at_builtin; refine Kd.R_append_rows Kd.string (w0 := W) W.heap.size rfl (.tmp 13) (.tmp 14) 45 9 (.string ⟨#[]⟩) 16 rfl Tryd.underlying45 infoStr rfl (by decide) (by omega) (.slice A1 l.length c1) l mk4 (some ⟨w1.heap.size, 0, none⟩) 4 4 (fun _ => True) (fun _ => False) rfl rfl (Kd.R_alloc HO1.out _) (lit_C w1) (fun x cs h => h) (fun k hk => hk.elim) (fun _ _ => trivial) (below_alloc HB1.out _) (by have := HB1.out.size; simp; omega) (by omega) ?_; intro v2 w2 ho2 hb2 hg2 hat2; obtain ⟨A2, c2, e2⟩ := Kd.R_slice ho2; subst e2; have hc2 : l.length + 4 ≤ c2 := (by have := (Kd.R_reads' ho2).2.1; simpa using this); have hc2' : (l.length : Int) ≤ (c2 : Int) := (by omega); have HO2 := Aside0.mk ho2; have HB2 := Aside0.mk hb2; clear ho2 hb2 hg2 hat2))
  have HC2 := Aside0.mk (show Kd.string.C w2 A2 (l ++ mk4).length (l ++ mk4) from (Kd.R_reads' HO2.out).2.2)
  have HT2 := Aside0.mk (take_C HC2.out)
  have HD2 := Aside0.mk (drop_C HC2.out (show (l ++ mk4).length ≤ c2 by simpa using hc2))
  go_at_call 22
  refine (command_any w2 ad (errs_below HE.out HB2.out) (tab_up HT.out HB2.out) A2 l c2 HT2.out).mono ?_
  rintro e w3 ⟨rfl, hb3⟩
  rw [HV.out]
  have HB3 := Aside0.mk (HB2.out.trans (hb3.mono HB2.out.size))
  have HT3 := Aside0.mk (Kd.C_below HT2.out hb3)
  have HD3 := Aside0.mk (Kd.C_below HD2.out hb3)
  clear hb3
  go_wp2_with fail
  go_at_call 23
  refine (refcommand_any w3 (tab_up HT.out HB3.out) A l c (Kd.C_below HA.out HB3.out)).mono ?_
  rintro e w4 ⟨rfl, hb4⟩
  rw [HR.out]
  have HB4 := Aside0.mk (HB3.out.trans (hb4.mono HB3.out.size))
  have HT4 := Aside0.mk (Kd.C_below HT3.out hb4)
  have HD4 := Aside0.mk (Kd.C_below HD3.out hb4)
  clear hb4
  go_wp2_with fail
  go_at_call 21
  refine (same_strings l w4 A2 A c2 c HT4.out (Kd.C_below HA.out HB4.out)).mono ?_
  rintro e w5 ⟨rfl, hb5⟩
  have HB5 := Aside0.mk (HB4.out.trans (hb5.mono HB4.out.size))
  have HD5 := Aside0.mk (Kd.C_below HD4.out hb5)
  clear hb5
  go_wp2_with fail
  go_at_call 21
  refine (same_strings mk4 (w5.alloc mkO) _ _ (c2 - l.length) 4 (Kd.C_alloc HD5.out _) (lit_C w5)).mono ?_
  rintro e w6 ⟨rfl, hb6⟩
  have HB6 := Aside0.mk ((below_alloc HB5.out mkO).trans (hb6.mono (by have := HB5.out.size; simp; omega)))
  clear hb6
  go_wp2_with fail
  go_at_call 13
  refine (HN.out w6 (errs_below HE.out HB6.out)).mono ?_
  rintro e w7 ⟨rfl, rfl⟩
  go_wp2_with fail
  go_ret
  exact ⟨rfl, HB6.out⟩
end Go.Proofs.YtbdfjiobegadjaaDoor.Wr
