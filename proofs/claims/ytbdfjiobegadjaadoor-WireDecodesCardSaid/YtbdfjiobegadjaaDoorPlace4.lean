/- The walks of the document's place: a line. -/
import Derived.Test.YtbdfjiobegadjaaDoorPlace3
namespace Go.Proofs.YtbdfjiobegadjaaDoor.Pl
open Go Go.RowKit Go.Proofs.YtbdfjiobegadjaaDoor.Tk Go.Proofs.YtbdfjiobegadjaaDoor.PWireMemory Go.Proofs.YtbdfjiobegadjaaDoorW.PrintWords Go.Proofs.YtbdfjiobegadjaaDoorW.PrintLast Go.Proofs.YtbdfjiobegadjaaDoorW.PrintMore
set_option linter.unusedVariables false
set_option linter.unusedSectionVars false
set_option linter.unusedSimpArgs false
inductive TS (b : Nat) (s : ByteArray) (R : Res Nat) (i0 : Nat) (W : World) : Prop
  | good (i : Nat) (h0 : i0 ≤ i) (hi : i ≤ s.size) (h : PGood W b s i) (e : lin s (s.size - i) (i - i0) i = R) : TS b s R i0 W
  | bad (k : Nat) (h : PBad W b k) (e : R = .no k) : TS b s R i0 W
structure TextOk (b : Nat) (s : ByteArray) (i : Nat) (R : Res Nat) (W : World) (e : Ending) (W' : World) : Prop where
  end_ : ∃ t : ByteArray, e = .returned (.string t) ∧ ∀ a j, R = .ok a j → t = s.extract i a
  at_ : PLeaves W' b s R
  only : Only b W W'
theorem Only.from_drewN {b : Nat} {a c : World} {n : Nat} (h : Only b (a.drewN n) c) : Only b a c := ⟨h.os, h.tape, h.output, h.size, h.keep⟩
theorem expect_cr (s : ByteArray) (i : Nat) (hi : i < s.size) (hb : ((s[i]).toNat : Int) = 13) : expect s [13, 10] i = expect s [10] (i + 1) := by
  rw [expect, dif_pos hi, if_pos (UInt8.toNat_inj.1 (by rw [show (13 : UInt8).toNat = 13 from rfl]; omega))]
set_option maxHeartbeats 2000000 in
theorem texted_any (W : World) (b : Nat) (s : ByteArray) (i0 : Nat) (R : Res Nat) (hs : s.size ≤ 140737488351232) (hi0 : i0 ≤ s.size) (e0 : Int) (h : PAt W b s i0 1 e0) (e : lin s (s.size - i0) 0 i0 = R) :
    Calls Tryd.prog 57 #[.pointer (some ⟨b, 0, none⟩)] W (TextOk b s i0 R W) := by
  have hbl := blk_lt h
  obtain ⟨⟨h0, h1, h2, h3⟩, f1, f2, f3⟩ := h.cells
  have HU : Aside0 (TS b s R i0 W) := ⟨.good i0 (Nat.le_refl _) hi0 ⟨e0, h⟩ (by rw [Nat.sub_self]; exact e)⟩
  clear h e
  go_enter Tryd.func57, Tryd.ntmps57
  go_wp2_with fail
  clear h0 h1 h2 h3 f1 f2 f3
  go_loopw [4, 5] (fun _ _ W' => Aside0 (TS b s R i0 W') ∧ Aside0 (Only b W W')) (fun _ _ W' => mp s W' b)
  case atStart => exact ⟨HU, ⟨Only.refl _ _⟩⟩
  case round =>
    clear HU
    obtain ⟨HU, HO⟩ := hrel
    have hU := HU.out
    clear HU
    cases hU with
    | bad k h e =>
      obtain ⟨s', i', e', h⟩ := h
      obtain ⟨⟨h0, h1, h2, h3⟩, f1, f2, f3⟩ := h.cells
      have hw := wh_eq k
      have H := Aside0.mk h
      have HR := Aside0.mk e
      clear h e
      go_wp2_with fail
      go_ret
      exact ⟨⟨⟨#[]⟩, rfl, fun a j he => by rw [HR.out] at he; cases he⟩, by rw [HR.out]; exact ⟨s', i', e', H.out⟩, HO.out⟩
    | good i hii hi h e =>
      obtain ⟨e1, h⟩ := h
      obtain ⟨⟨h0, h1, h2, h3⟩, f1, f2, f3⟩ := h.cells
      have H := Aside0.mk h
      clear h
      by_cases hlt : i < s.size
      · obtain ⟨f, hf⟩ : ∃ f, s.size - i = f + 1 := ⟨s.size - i - 1, by omega⟩
        rw [hf, lin, bt_nat s i hlt] at e
        have hr := (s[i]).toNat_lt
        have HF := Aside0.mk hf
        clear hf
        go_wp2_with fail
        go_at_call 56; refine (here_some _ b s i e1 hs hlt H.out).mono ?_; rintro e w1 ⟨rfl, ha1, ho1⟩; obtain ⟨⟨g0, g1, g2, g3⟩, q1, q2, q3⟩ := PAt.cells ha1; have HA1 := Aside0.mk ha1; have HO1 := Aside0.mk (HO.out.trans ho1); clear ha1 ho1 h0 h1 h2 h3 f1 f2 f3
        by_cases h13 : ((s[i]).toNat : Int) = 13
        · rw [if_pos h13, ← expect_cr s i hlt h13] at e
          have HR := Aside0.mk e.symm
          have h13b : (((s[i]).toNat : Int) == 13) = true := beq_iff_eq.mpr h13
          clear e h13
          go_wp2_with fail
          go_quiet (fail)
          go_wp2_with (go_at_call 59; refine (crlf_any _ b s i (expect s [13, 10] i) hs (by exact (.inl ⟨⟨e1, HA1.out⟩, rfl⟩))).mono ?_; rintro e w2 ⟨rfl, ha2, ho2⟩; have HA2 := Aside0.mk ha2; have HO2 := Aside0.mk (Only.from_drewN ho2); clear ha2 ho2)
          go_ret
          refine ⟨⟨_, rfl, fun a j he => ?_⟩, by rw [HR.out]; exact pleaves_as _ HA2.out, HO1.out.trans HO2.out⟩
          rw [HR.out] at he
          rw [(as_ok he).1]
        · rw [if_neg h13] at e
          have h13b : (((s[i]).toNat : Int) == 13) = false := beq_eq_false_iff_ne.mpr h13
          clear h13
          by_cases hlo : ((s[i]).toNat : Int) < 32
          · rw [if_pos (.inl hlo)] at e
            have HR := Aside0.mk e.symm
            clear e
            go_wp2_with (go_at_call 62; refine (bad_any _ b s _ _ _ HA1.out).mono ?_; rintro e w2 ⟨rfl, ha2, ho2⟩; have HA2 := Aside0.mk ha2; have HO2 := Aside0.mk ho2; clear ha2 ho2)
            go_ret
            exact ⟨⟨⟨#[]⟩, rfl, fun a j he => by rw [HR.out] at he; cases he⟩, by rw [HR.out]; exact pno 1 HA2.out, HO1.out.trans HO2.out⟩
          · have hlo' : 32 ≤ ((s[i]).toNat : Int) := by omega
            by_cases h127 : ((s[i]).toNat : Int) = 127
            · rw [if_pos (.inr (.inl h127))] at e
              have HR := Aside0.mk e.symm
              have h127b : (((s[i]).toNat : Int) == 127) = true := beq_iff_eq.mpr h127
              clear e h127 hlo
              go_wp2_with (go_at_call 62; refine (bad_any _ b s _ _ _ HA1.out).mono ?_; rintro e w2 ⟨rfl, ha2, ho2⟩; have HA2 := Aside0.mk ha2; have HO2 := Aside0.mk ho2; clear ha2 ho2)
              go_ret
              exact ⟨⟨⟨#[]⟩, rfl, fun a j he => by rw [HR.out] at he; cases he⟩, by rw [HR.out]; exact pno 1 HA2.out, HO1.out.trans HO2.out⟩
            · have h127b : (((s[i]).toNat : Int) == 127) = false := beq_eq_false_iff_ne.mpr h127
              have hbo : ¬ 127 = ((s[i]).toNat : Int) := fun e => h127 e.symm
              have hii' : (i0 : Int) ≤ (i : Int) := by omega
              by_cases hmx : i - i0 = 4096
              · rw [if_pos (.inr (.inr hmx))] at e
                have HR := Aside0.mk e.symm
                have hmb : (((i : Int) - (i0 : Int)) == 4096) = true := by rw [beq_iff_eq]; omega
                clear e h127 hlo hbo hmx
                go_wp2_with (go_at_call 62; refine (bad_any _ b s _ _ _ HA1.out).mono ?_; rintro e w2 ⟨rfl, ha2, ho2⟩; have HA2 := Aside0.mk ha2; have HO2 := Aside0.mk ho2; clear ha2 ho2)
                go_ret
                exact ⟨⟨⟨#[]⟩, rfl, fun a j he => by rw [HR.out] at he; cases he⟩, by rw [HR.out]; exact pno 1 HA2.out, HO1.out.trans HO2.out⟩
              · rw [if_neg (by omega)] at e
                have HR := Aside0.mk e
                have hmb : (((i : Int) - (i0 : Int)) == 4096) = false := by rw [beq_eq_false_iff_ne]; omega
                clear e h127 hlo hbo hmx
                go_wp2_with fail
                go_roundw
                case rel => exact ⟨⟨.good (i + 1) (by omega) (by omega) ⟨e1, by have := HA1.out.set1 ((i : Int) + 1); exact this⟩ (by rw [← HR.out, show s.size - (i + 1) = f from by have := HF.out; omega, show i + 1 - i0 = i - i0 + 1 from by omega])⟩, ⟨HO1.out.set 1 _⟩⟩
                case measure => rw [mp_at H.out, mp_at (s := s) (i := i + 1) (HA1.out.set1 ((i : Int) + 1))]; simp; omega
      · have HR := Aside0.mk (show R = .no 3 by rw [← e, show s.size - i = 0 from by omega, lin])
        have HI := Aside0.mk hlt
        clear e hlt
        go_wp2_with (go_at_call 56; refine (here_end _ b s i e1 hs HI.out H.out).mono ?_; rintro e w1 ⟨rfl, ha1, ho1⟩; obtain ⟨⟨g0, g1, g2, g3⟩, q1, q2, q3⟩ := PAt.cells ha1; have HA1 := Aside0.mk ha1; have HO1 := Aside0.mk ho1; clear ha1 ho1)
        go_ret
        exact ⟨⟨⟨#[]⟩, rfl, fun a j he => by rw [HR.out] at he; cases he⟩, by rw [HR.out]; exact ⟨s, i, e1, HA1.out⟩, HO.out.trans HO1.out⟩
end Go.Proofs.YtbdfjiobegadjaaDoor.Pl
