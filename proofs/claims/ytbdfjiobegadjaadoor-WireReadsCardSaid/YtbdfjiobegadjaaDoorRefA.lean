/- The walks of the document's reader: must, bad, a number's line. -/
import Derived.Test.YtbdfjiobegadjaaDoorPlace
import Derived.Test.YtbdfjiobegadjaaDoorRead
import Derived.LoopTactic
namespace Go.Proofs.YtbdfjiobegadjaaDoor.Rf
open Go Go.RowKit Go.Proofs.YtbdfjiobegadjaaDoor.Tk Go.Proofs.YtbdfjiobegadjaaDoor.Pl Go.Proofs.YtbdfjiobegadjaaDoor.PWireMemory Go.Proofs.YtbdfjiobegadjaaDoorW.PrintWords Go.Proofs.YtbdfjiobegadjaaDoorW.PrintLast Go.Proofs.YtbdfjiobegadjaaDoorW.PrintMore
set_option linter.unusedVariables false
set_option linter.unusedSectionVars false
set_option linter.unusedSimpArgs false
/-- Bad at refusal k: its number stands there, too, but where something is missing. -/
def RBad (W : World) (b k : Nat) : Prop := ∃ (s : ByteArray) (i e : Int), PAt W b s i (wh k) e ∧ (k ≠ 3 → e = (k : Int) + 1)
def RLeaves {α : Type} (W : World) (b : Nat) (s : ByteArray) : Res α → Prop
  | .ok _ i => PGood W b s i
  | .no k => RBad W b k
theorem wh_not (k : Nat) (h : k ≠ 3) : wh k = 2 := if_neg h
theorem bad_k (W : World) (b : Nat) (s : ByteArray) (i y e : Int) (k : Nat) (hk : k ≤ 2) (h : PAt W b s i y e) :
    Calls Tryd.prog 62 #[.pointer (some ⟨b, 0, none⟩), .int .i64 ((k : Int) + 1)] W (UnitOk b (fun W' => PAt W' b s i 2 ((k : Int) + 1)) W) := by
  obtain ⟨⟨h0, h1, h2, h3⟩, f1, f2, f3⟩ := h.cells
  have H := Aside0.mk h
  clear h
  go_enter Tryd.func62, Tryd.ntmps62
  go_wp2_with fail
  go_end0
  exact ⟨rfl, (H.out.set2 2).set3 ((k : Int) + 1), ((Only.refl _ _).set 2 _).set 3 _⟩
theorem bad_2 (W : World) (b : Nat) (s : ByteArray) (i y e : Int) (h : PAt W b s i y e) : Calls Tryd.prog 62 #[.pointer (some ⟨b, 0, none⟩), .int .i64 2] W (UnitOk b (fun W' => PAt W' b s i 2 2) W) := bad_k W b s i y e 1 (by omega) h
theorem bad_3 (W : World) (b : Nat) (s : ByteArray) (i y e : Int) (h : PAt W b s i y e) : Calls Tryd.prog 62 #[.pointer (some ⟨b, 0, none⟩), .int .i64 3] W (UnitOk b (fun W' => PAt W' b s i 2 3) W) := bad_k W b s i y e 2 (by omega) h
theorem rbad_1 {W : World} {b : Nat} {s : ByteArray} {i : Int} (h : PAt W b s i 2 2) : RBad W b 1 := ⟨s, i, 2, h, fun _ => rfl⟩
theorem rbad_2 {W : World} {b : Nat} {s : ByteArray} {i : Int} (h : PAt W b s i 2 3) : RBad W b 2 := ⟨s, i, 3, h, fun _ => rfl⟩
theorem rbad_3 {W : World} {b : Nat} {s : ByteArray} {i e : Int} (h : PAt W b s i 0 e) : RBad W b 3 := ⟨s, i, e, h, fun h => absurd rfl h⟩
set_option maxHeartbeats 2000000 in
theorem must_good (W : World) (b : Nat) (s : ByteArray) (c : UInt8) (i : Nat) (e0 : Int) (hs : s.size ≤ 140737488351232) (h : PAt W b s i 1 e0) :
    Calls Tryd.prog 76 #[.pointer (some ⟨b, 0, none⟩), .int .i64 c.toNat] W (UnitOk b (fun W' => RLeaves W' b s (expect s [c] i)) W) := by
  have H := Aside0.mk h
  by_cases hi : i < s.size
  · by_cases hc : s[i] = c
    · have HR := Aside0.mk (show expect s [c] i = .ok () (i + 1) by rw [expect, dif_pos hi, if_pos hc, expect])
      have hcb : (((s[i]).toNat : Int) != (c.toNat : Int)) = false := u8_eq hc
      clear hc h
      go_enter Tryd.func76, Tryd.ntmps76
      go_wp2_with (go_at_call 56; refine (here_some _ b s i e0 hs hi H.out).mono ?_; rintro e w1 ⟨rfl, ha1, ho1⟩; obtain ⟨⟨h0, h1, h2, h3⟩, f1, f2, f3⟩ := PAt.cells ha1; have HA1 := Aside0.mk ha1; have HO1 := Aside0.mk ho1; clear ha1 ho1)
      go_end0
      exact ⟨rfl, by rw [HR.out]; exact ⟨e0, HA1.out.set1 _⟩, HO1.out.set 1 _⟩
    · have HR := Aside0.mk (show expect s [c] i = .no 1 by rw [expect, dif_pos hi, if_neg hc])
      have hcb : (((s[i]).toNat : Int) != (c.toNat : Int)) = true := u8_ne hc
      clear hc h
      go_enter Tryd.func76, Tryd.ntmps76
      go_wp2_with (first | (go_at_call 56; refine (here_some _ b s i e0 hs hi H.out).mono ?_; rintro e w1 ⟨rfl, ha1, ho1⟩; obtain ⟨⟨h0, h1, h2, h3⟩, f1, f2, f3⟩ := PAt.cells ha1; have HA1 := Aside0.mk ha1; have HO1 := Aside0.mk ho1; clear ha1 ho1) | (go_at_call 62; refine (bad_2 _ b s _ _ _ HA1.out).mono ?_; rintro e w2 ⟨rfl, ha2, ho2⟩; have HA2 := Aside0.mk ha2; have HO2 := Aside0.mk ho2; clear ha2 ho2))
      go_end0
      exact ⟨rfl, by rw [HR.out]; exact rbad_1 HA2.out, HO1.out.trans HO2.out⟩
  · have HR := Aside0.mk (show expect s [c] i = .no 3 by rw [expect, dif_neg hi])
    have HI := Aside0.mk hi
    clear h hi
    go_enter Tryd.func76, Tryd.ntmps76
    go_wp2_with (go_at_call 56; refine (here_end _ b s i e0 hs HI.out H.out).mono ?_; rintro e w1 ⟨rfl, ha1, ho1⟩; obtain ⟨⟨h0, h1, h2, h3⟩, f1, f2, f3⟩ := PAt.cells ha1; have HA1 := Aside0.mk ha1; have HO1 := Aside0.mk ho1; clear ha1 ho1)
    go_end0
    exact ⟨rfl, by rw [HR.out]; exact rbad_3 HA1.out, HO1.out⟩
theorem must_bad (W : World) (b k : Nat) (c : Int) (h : RBad W b k) : Calls Tryd.prog 76 #[.pointer (some ⟨b, 0, none⟩), .int .i64 c] W (UnitOk b (fun W' => RBad W' b k) W) := by
  obtain ⟨s', i', e0, h, hk⟩ := h
  have H := Aside0.mk h
  have HK := Lib.hid hk
  have hw := wh_ne k
  clear h hk
  go_enter Tryd.func76, Tryd.ntmps76
  go_wp2_with (go_at_call 56; refine (here_bad _ b s' i' e0 k H.out).mono ?_; rintro e w1 ⟨rfl, ha1, ho1⟩; obtain ⟨⟨h0, h1, h2, h3⟩, f1, f2, f3⟩ := PAt.cells ha1; have HA1 := Aside0.mk ha1; have HO1 := Aside0.mk ho1; clear ha1 ho1)
  go_end0
  exact ⟨rfl, ⟨s', i', e0, HA1.out, HK.out⟩, HO1.out⟩
/-- Good at i with p to come, or bad: R is what it comes to. -/
inductive RAhead {α : Type} (b : Nat) (s : ByteArray) (p : Nat → Res α) (R : Res α) (W : World) : Prop
  | good (i : Nat) (e : Int) (hi : i ≤ s.size) (h : PAt W b s i 1 e) (e : p i = R)
  | bad (k : Nat) (h : RBad W b k) (e : R = .no k)
theorem must_any (W : World) (b : Nat) (s : ByteArray) (c : UInt8) (R : Res Unit) (hs : s.size ≤ 140737488351232) (h : RAhead b s (expect s [c]) R W) :
    Calls Tryd.prog 76 #[.pointer (some ⟨b, 0, none⟩), .int .i64 c.toNat] W (UnitOk b (fun W' => RLeaves W' b s R) W) := by
  cases h with
  | good i e0 hi h e => rw [← e]; exact must_good W b s c i e0 hs h
  | bad k h e => rw [e]; exact must_bad W b k _ h
/-- A number's line from i on. -/
def numF (s : ByteArray) : Nat → Nat → Nat → Nat → Res Nat
  | 0, _, _, _ => .no 3
  | f + 1, n, many, i => if bt s i = 13 ∧ 0 < many then (expect s [10] (i + 1)).as n
    else if bt s i < 48 ∨ 57 < bt s i ∨ many = 6 ∨ (many = 1 ∧ n = 0) then .no 1 else numF s f (10 * n + (bt s i - 48).toNat) (many + 1) (i + 1)
structure NumOk (b : Nat) (s : ByteArray) (R : Res Nat) (W : World) (e : Ending) (W' : World) : Prop where
  end_ : ∃ v : Int, e = .returned (.int .i64 v) ∧ ∀ n j, R = .ok n j → v = n
  at_ : RLeaves W' b s R
  only : Only b W W'
theorem bt_nat' (s : ByteArray) (i : Nat) (h : i < s.size) : bt s (i : Int) = ((s[i]).toNat : Int) := (bt_at s i (by simpa using h)).symm
theorem rleaves_as {α β : Type} {W : World} {b : Nat} {s : ByteArray} {R : Res α} (x : β) (h : RLeaves W b s R) : RLeaves W b s (R.as x) := by cases R <;> exact h
theorem must_lf (W : World) (b : Nat) (s : ByteArray) (R : Res Unit) (hs : s.size ≤ 140737488351232) (h : RAhead b s (expect s [10]) R W) :
    Calls Tryd.prog 76 #[.pointer (some ⟨b, 0, none⟩), .int .i64 10] W (UnitOk b (fun W' => RLeaves W' b s R) W) := must_any W b s 10 R hs h
theorem number_bad (W : World) (b k : Nat) (s : ByteArray) (h : RBad W b k) : Calls Tryd.prog 80 #[.pointer (some ⟨b, 0, none⟩)] W (NumOk b s (.no k) W) := by
  obtain ⟨s', i', e0, h, hk⟩ := h
  obtain ⟨⟨h0, h1, h2, h3⟩, f1, f2, f3⟩ := h.cells
  have H := Aside0.mk h
  have HK := Lib.hid hk
  have hw := wh_eq k
  clear h hk
  go_enter Tryd.func80, Tryd.ntmps80
  go_wp2_with fail
  go_loopw [3] (fun v3 W' => v3 = .int .i64 0 ∧ W' = W) (fun _ _ => 0)
  case atStart => exact ⟨rfl, rfl⟩
  case round =>
    obtain ⟨rfl, rfl⟩ := hrel
    go_wp2_with fail
    go_ret
    exact ⟨⟨0, rfl, fun n j h => by cases h⟩, ⟨s', i', e0, H.out, HK.out⟩, Only.refl _ _⟩
set_option maxHeartbeats 2000000 in
set_option maxRecDepth 100000 in
theorem number_good (W : World) (b : Nat) (s : ByteArray) (i0 : Nat) (e0 : Int) (hs : s.size ≤ 140737488351232) (hi0 : i0 ≤ s.size) (h : PAt W b s i0 1 e0) :
    Calls Tryd.prog 80 #[.pointer (some ⟨b, 0, none⟩)] W (NumOk b s (numF s (s.size - i0) 0 0 i0) W) := by
  generalize hR : numF s (s.size - i0) 0 0 i0 = R
  have HR := Lib.hid hR
  have H := Aside0.mk h
  clear h hR
  go_enter Tryd.func80, Tryd.ntmps80
  go_wp2_with fail
  go_loopw [3, 4] (fun v3 v4 W' => ∃ (n many i : Nat), v3 = .int .i64 n ∧ v4 = .int .i64 many ∧ i ≤ s.size ∧ n < 10 ^ many ∧ many ≤ 6 ∧ Hid (numF s (s.size - i) n many i = R) ∧ Aside0 (PAt W' b s i 1 e0) ∧ Aside0 (Only b W W')) (fun _ v4 _ => 7 - (intOf v4).toNat)
  case atStart => exact ⟨0, 0, i0, rfl, rfl, hi0, by omega, by omega, HR, H, ⟨Only.refl _ _⟩⟩
  case round =>
    obtain ⟨n, many, i, rfl, rfl, hi, hn, hm, hF, HA, HO⟩ := hrel
    obtain ⟨⟨h0, h1, h2, h3⟩, f1, f2, f3⟩ := HA.out.cells
    have hn6 : n < 1000000 := Nat.lt_of_lt_of_le hn (Nat.pow_le_pow_right (by omega) hm)
    have HN := Lib.hid hn
    clear hn
    by_cases hlt : i < s.size
    · have hc := (s[i]).toNat_lt
      have hbt := Lib.hid (bt_nat' s i hlt)
      have hst : numF s (s.size - i) n many i = if bt s i = 13 ∧ 0 < many then (expect s [10] (i + 1)).as n
          else if bt s i < 48 ∨ 57 < bt s i ∨ many = 6 ∨ (many = 1 ∧ n = 0) then .no 1 else numF s (s.size - (i + 1)) (10 * n + (bt s i - 48).toNat) (many + 1) (i + 1) := by
        rw [show s.size - i = (s.size - (i + 1)) + 1 by omega, numF]
      rw [hbt.out, hF.out] at hst
      have hc0 : (0 : Int) ≤ ((s[i]).toNat : Int) := by omega
      have hc1 : ((s[i]).toNat : Int) ≤ 255 := by omega
      by_cases h13 : ((s[i]).toNat : Int) = 13 ∧ 0 < many
      · rw [if_pos h13] at hst
        have hRR := Lib.hid hst
        have k1 : (((s[i]).toNat : Int) == 13) = true := by rw [beq_iff_eq]; exact h13.1
        have k2 : (0 : Int) < (many : Int) := by omega
        have hsum : (i : Int) + 1 = ((i + 1 : Nat) : Int) := by omega
        have HSUM := Lib.hid hsum
        clear h13 hst h0 h1 h3 f1 f2 f3 hsum
        go_wp2_with fail
        go_at_call 56; refine (here_some _ b s i e0 hs hlt HA.out).mono ?_; rintro e w1 ⟨rfl, ha1, ho1⟩; obtain ⟨⟨h0, h1, h2, h3⟩, f1, f2, f3⟩ := PAt.cells ha1; have HA1 := Aside0.mk ha1; have HO1 := Aside0.mk (HO.out.trans ho1); clear ha1 ho1
        go_wp2_with fail
        go_at_call 76
        refine (must_lf _ b s _ hs (by exact .good (i + 1) e0 (by omega) (by rw [HSUM.out]; exact HA1.out.set1 _) rfl)).mono ?_
        rintro e w2 ⟨rfl, ha2, ho2⟩
        have HA2 := Aside0.mk ha2
        have HO2 := Aside0.mk ((HO1.out.set 1 (.int .i64 ((i : Int) + 1))).trans ho2)
        clear ha2 ho2
        go_wp2_with fail
        go_ret
        refine ⟨⟨n, rfl, fun m j hmj => ?_⟩, by rw [hRR.out]; exact rleaves_as n HA2.out, HO2.out⟩
        rw [hRR.out] at hmj
        rw [(as_ok hmj).1]
      · rw [if_neg h13] at hst
        have key : ((((s[i]).toNat : Int) == 13) = false) ∨ ((((s[i]).toNat : Int) == 13) = true ∧ ¬ (0 : Int) < (many : Int)) := by
          by_cases h : ((s[i]).toNat : Int) = 13
          · exact .inr ⟨by rw [beq_iff_eq]; exact h, by omega⟩
          · exact .inl (by rw [beq_eq_false_iff_ne]; exact h)
        by_cases hbad : ((s[i]).toNat : Int) < 48 ∨ 57 < ((s[i]).toNat : Int) ∨ many = 6 ∨ (many = 1 ∧ n = 0)
        · rw [if_pos hbad] at hst
          have hRR := Lib.hid hst
          have key2 : decide (((s[i]).toNat : Int) < 48) = true ∨ (decide (((s[i]).toNat : Int) < 48) = false ∧ decide (57 < ((s[i]).toNat : Int)) = true) ∨ (decide (((s[i]).toNat : Int) < 48) = false ∧ decide (57 < ((s[i]).toNat : Int)) = false ∧ ((many : Int) == 6) = true) ∨
              (decide (((s[i]).toNat : Int) < 48) = false ∧ decide (57 < ((s[i]).toNat : Int)) = false ∧ ((many : Int) == 6) = false ∧ ((many : Int) == 1) = true ∧ ((n : Int) == 0) = true) := by
            simp only [decide_eq_true_eq, decide_eq_false_iff_not, beq_iff_eq, beq_eq_false_iff_ne]
            omega
          clear h13 hbad hst h0 h1 h3 f1 f2 f3
          rcases key with k5 | ⟨k5, k6⟩
          all_goals
            rcases key2 with k1 | ⟨k1, k2⟩ | ⟨k1, k2, k3⟩ | ⟨k1, k2, k3, k4, k7⟩
            all_goals
              go_wp2_with (first | (go_at_call 56; refine (here_some _ b s i e0 hs hlt HA.out).mono ?_; rintro e w1 ⟨rfl, ha1, ho1⟩; obtain ⟨⟨h0, h1, h2, h3⟩, f1, f2, f3⟩ := PAt.cells ha1; have HA1 := Aside0.mk ha1; have HO1 := Aside0.mk (HO.out.trans ho1); clear ha1 ho1) | (go_at_call 62; refine (bad_2 _ b s _ _ _ HA1.out).mono ?_; rintro e w2 ⟨rfl, ha2, ho2⟩; have HA2 := Aside0.mk ha2; have HO2 := Aside0.mk (HO1.out.trans ho2); clear ha2 ho2))
              go_ret
              exact ⟨⟨0, rfl, fun m j hmj => by rw [hRR.out] at hmj; cases hmj⟩, by rw [hRR.out]; exact rbad_1 HA2.out, HO2.out⟩
        · rw [if_neg hbad] at hst
          have hRR := Lib.hid hst.symm
          have k1 : decide (((s[i]).toNat : Int) < 48) = false := by simp; omega
          have k2 : decide (57 < ((s[i]).toNat : Int)) = false := by simp; omega
          have k3 : ((many : Int) == 6) = false := by rw [beq_eq_false_iff_ne]; omega
          have key3 : ((many : Int) == 1) = false ∨ (((many : Int) == 1) = true ∧ ((n : Int) == 0) = false) := by
            simp only [beq_iff_eq, beq_eq_false_iff_ne]
            omega
          have hv := Lib.hid (show (n : Int) * 10 + ((s[i]).toNat : Int) - 48 = ((10 * n + (((s[i]).toNat : Int) - 48).toNat : Nat) : Int) by omega)
          have HSUM := Lib.hid (show (i : Int) + 1 = ((i + 1 : Nat) : Int) by omega)
          have hb2 := Lib.hid (show 10 * n + (((s[i]).toNat : Int) - 48).toNat < 10 ^ (many + 1) by rw [Nat.pow_succ]; have := HN.out; omega)
          have hm' : many + 1 ≤ 6 := by omega
          clear h13 hbad hst h0 h1 h3 f1 f2 f3
          rcases key with k5 | ⟨k5, k6⟩
          all_goals
            rcases key3 with k7 | ⟨k7, k8⟩
            all_goals
              go_wp2_with (go_at_call 56; refine (here_some _ b s i e0 hs hlt HA.out).mono ?_; rintro e w1 ⟨rfl, ha1, ho1⟩; obtain ⟨⟨h0, h1, h2, h3⟩, f1, f2, f3⟩ := PAt.cells ha1; have HA1 := Aside0.mk ha1; have HO1 := Aside0.mk (HO.out.trans ho1); clear ha1 ho1)
              refine ⟨⟨10 * n + (((s[i]).toNat : Int) - 48).toNat, many + 1, i + 1, by rw [hv.out], by go_num, by omega, hb2.out, hm', hRR, ⟨by have := HA1.out.set1 ((i : Int) + 1); rw [HSUM.out] at this ⊢; exact this⟩, ⟨HO1.out.set 1 _⟩⟩, by simp [intOf]; omega⟩
    · have HI := Aside0.mk hlt
      have hRR := Lib.hid (show R = .no 3 by rw [← hF.out, show s.size - i = 0 by omega, numF])
      clear hlt h0 h1 h3 f1 f2 f3
      go_wp2_with (go_at_call 56; refine (here_end _ b s i e0 hs HI.out HA.out).mono ?_; rintro e w1 ⟨rfl, ha1, ho1⟩; obtain ⟨⟨h0, h1, h2, h3⟩, f1, f2, f3⟩ := PAt.cells ha1; have HA1 := Aside0.mk ha1; have HO1 := Aside0.mk (HO.out.trans ho1); clear ha1 ho1)
      go_ret
      exact ⟨⟨0, rfl, fun m j hmj => by rw [hRR.out] at hmj; cases hmj⟩, by rw [hRR.out]; exact rbad_3 HA1.out, HO1.out⟩
end Go.Proofs.YtbdfjiobegadjaaDoor.Rf
