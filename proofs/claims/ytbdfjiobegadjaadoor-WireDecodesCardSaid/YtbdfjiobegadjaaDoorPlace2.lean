/- The walks of the document's place: numbers. -/
import Derived.Test.YtbdfjiobegadjaaDoorPlace
namespace Go.Proofs.YtbdfjiobegadjaaDoor.Pl
open Go Go.RowKit Go.Proofs.YtbdfjiobegadjaaDoor.Tk Go.Proofs.YtbdfjiobegadjaaDoor.PWireMemory Go.Proofs.YtbdfjiobegadjaaDoorW.PrintWords Go.Proofs.YtbdfjiobegadjaaDoorW.PrintLast Go.Proofs.YtbdfjiobegadjaaDoorW.PrintMore
set_option linter.unusedVariables false
set_option linter.unusedSectionVars false
set_option linter.unusedSimpArgs false
/-- Digits up to a CR, which is not taken. -/
def digR (s : ByteArray) (most : Nat) : Nat → Nat → Bool → Nat → Res Nat
  | 0, _, _, _ => .no 3
  | f + 1, n, first, i =>
    if bt s i = 13 ∧ first = false then .ok n i
    else if bt s i < 48 ∨ 57 < bt s i ∨ (first = false ∧ n = 0) ∨ (most - ((bt s i).toNat - 48)) / 10 < n then .no 1
    else digR s most f (10 * n + ((bt s i).toNat - 48)) false (i + 1)
theorem digs_digR (s : ByteArray) (most : Nat) : ∀ (f n : Nat) (first : Bool) (i : Nat), i + f = s.size → digs s most f n first i = nextR (digR s most f n first i) fun n j => (expect s [13, 10] j).as n
  | 0, _, _, _, _ => rfl
  | f + 1, n, first, i, h => by
    rw [digs, digR]
    by_cases c : bt s i = 13 ∧ first = false
    · rw [if_pos c, if_pos c]
      show _ = (expect s [13, 10] i).as n
      have hi : i < s.size := by omega
      have hb : s[i] = 13 := by
        have := c.1
        rw [bt_nat s i hi] at this
        exact UInt8.toNat_inj.1 (by rw [show (13 : UInt8).toNat = 13 from rfl]; omega)
      rw [show expect s [13, 10] i = expect s [10] (i + 1) from by rw [expect, dif_pos hi, if_pos hb]]
    · rw [if_neg c, if_neg c]
      split
      · rfl
      · exact digs_digR s most f _ _ (i + 1) (by omega)
inductive DS (b : Nat) (s : ByteArray) (most : Nat) (R : Res Nat) (n : Nat) (first : Bool) (W : World) : Prop
  | good (i : Nat) (hi : i ≤ s.size) (h : PGood W b s i) (e : digR s most (s.size - i) n first i = R) : DS b s most R n first W
  | bad (k : Nat) (h : PBad W b k) (e : R = .no k) : DS b s most R n first W
def mp (s : ByteArray) (W : World) (b : Nat) : Nat := match W.heap[b]? with
  | some (.cells cs _ _) => (match (cs[1]? : Option Value) with | some (.int _ i) => s.size - i.toNat | _ => 0) + (match (cs[2]? : Option Value) with | some (.int _ y) => (if y = 1 then 1 else 0) | _ => 0)
  | _ => 0
theorem mp_at {W : World} {b : Nat} {s s' : ByteArray} {i : Nat} {y e : Int} (h : PAt W b s' i y e) : mp s W b = s.size - i + (if y = 1 then 1 else 0) := by
  unfold mp; rw [h]; simp
structure DigOk (b : Nat) (s : ByteArray) (most : Nat) (R : Res Nat) (W : World) (e : Ending) (W' : World) : Prop where
  end_ : ∃ v : Nat, v ≤ most ∧ e = .returned (.int .u64 v) ∧ ∀ a j, R = .ok a j → v = a
  at_ : PLeaves W' b s R
  only : Only b W W'
set_option maxHeartbeats 2000000 in
theorem digits_any (W : World) (b : Nat) (s : ByteArray) (most i0 : Nat) (R : Res Nat) (hs : s.size ≤ 140737488351232) (h9 : 9 ≤ most) (hmo : most ≤ 9223372036854775808) (hi0 : i0 ≤ s.size)
    (h : PAhead b s i0 (digR s most (s.size - i0) 0 true i0) R W) :
    Calls Tryd.prog 75 #[.pointer (some ⟨b, 0, none⟩), .int .u64 most] W (DigOk b s most R W) := by
  have hbl := h.lt
  have HU : Aside0 (DS b s most R 0 true W) := by
    refine ⟨?_⟩
    rcases h with ⟨h, e⟩ | ⟨k, h, e⟩
    · exact .good i0 hi0 h e
    · exact .bad k h e
  clear h
  go_enter Tryd.func75, Tryd.ntmps75
  go_wp2_with fail
  go_loopw [5, 6] (fun v5 v6 W' => ∃ (n : Nat) (first : Bool), n ≤ most ∧ v5 = .int .u64 n ∧ v6 = .bool first ∧ Aside0 (DS b s most R n first W') ∧ Aside0 (Only b W W')) (fun _ _ W' => mp s W' b)
  case atStart => exact ⟨0, true, by omega, rfl, rfl, HU, ⟨Only.refl _ _⟩⟩
  case round =>
    clear HU
    obtain ⟨n, first, hn, rfl, rfl, HU, HO⟩ := hrel
    have hU := HU.out
    clear HU
    cases hU with
    | bad k h e =>
      obtain ⟨s', i', e', h⟩ := h
      obtain ⟨⟨h0, h1, h2, h3⟩, f1, f2, f3⟩ := h.cells
      have hw := wh_eq k
      have H := Aside0.mk h
      have HR := Aside0.mk e
      clear h e
      go_wp2_with fail
      go_ret
      exact ⟨⟨0, Nat.zero_le _, rfl, fun a j he => by rw [HR.out] at he; cases he⟩, by rw [HR.out]; exact ⟨s', i', e', H.out⟩, HO.out⟩
    | good i hi h e =>
      obtain ⟨e0, h⟩ := h
      obtain ⟨⟨h0, h1, h2, h3⟩, f1, f2, f3⟩ := h.cells
      have H := Aside0.mk h
      clear h
      by_cases hlt : i < s.size
      · obtain ⟨f, hf⟩ : ∃ f, s.size - i = f + 1 := ⟨s.size - i - 1, by omega⟩
        rw [hf, digR, bt_nat s i hlt] at e
        have hr := (s[i]).toNat_lt
        have HF := Aside0.mk hf
        clear hf
        go_wp2_with fail
        go_at_call 56; refine (here_some _ b s i e0 hs hlt H.out).mono ?_; rintro e w1 ⟨rfl, ha1, ho1⟩; obtain ⟨⟨g0, g1, g2, g3⟩, q1, q2, q3⟩ := PAt.cells ha1; have HA1 := Aside0.mk ha1; have HO1 := Aside0.mk ho1; clear ha1 ho1 h0 h1 h2 h3 f1 f2 f3
        by_cases h13 : ((s[i]).toNat : Int) = 13
        · have h13b : (((s[i]).toNat : Int) == 13) = true := beq_iff_eq.mpr h13
          cases first with
          | false =>
            rw [if_pos ⟨h13, rfl⟩] at e
            have HR := Aside0.mk e.symm
            clear e h13
            go_wp2_with fail
            go_ret
            exact ⟨⟨n, hn, rfl, fun a j he => by rw [HR.out] at he; cases he; rfl⟩, by rw [HR.out]; exact ⟨e0, HA1.out⟩, HO.out.trans HO1.out⟩
          | true =>
            rw [if_neg (by simp), if_pos (by omega)] at e
            have HR := Aside0.mk e.symm
            have hlo : ((s[i]).toNat : Int) < 48 := by omega
            clear e h13
            go_wp2_with (go_at_call 62; refine (bad_any _ b s _ _ _ HA1.out).mono ?_; rintro e w2 ⟨rfl, ha2, ho2⟩; have HA2 := Aside0.mk ha2; have HO2 := Aside0.mk ho2; clear ha2 ho2)
            go_ret
            exact ⟨⟨0, Nat.zero_le _, rfl, fun a j he => by rw [HR.out] at he; cases he⟩, by rw [HR.out]; exact ⟨s, i, 2, HA2.out⟩, (HO.out.trans HO1.out).trans HO2.out⟩
        · rw [if_neg (fun x => h13 x.1)] at e
          have h13b : (((s[i]).toNat : Int) == 13) = false := beq_eq_false_iff_ne.mpr h13
          clear h13
          by_cases hlo : ((s[i]).toNat : Int) < 48
          · rw [if_pos (.inl hlo)] at e
            have HR := Aside0.mk e.symm
            clear e
            go_wp2_with (go_at_call 62; refine (bad_any _ b s _ _ _ HA1.out).mono ?_; rintro e w2 ⟨rfl, ha2, ho2⟩; have HA2 := Aside0.mk ha2; have HO2 := Aside0.mk ho2; clear ha2 ho2)
            go_ret
            exact ⟨⟨0, Nat.zero_le _, rfl, fun a j he => by rw [HR.out] at he; cases he⟩, by rw [HR.out]; exact ⟨s, i, 2, HA2.out⟩, (HO.out.trans HO1.out).trans HO2.out⟩
          · have hlo' : 48 ≤ ((s[i]).toNat : Int) := by omega
            by_cases hhi : 57 < ((s[i]).toNat : Int)
            · rw [if_pos (.inr (.inl hhi))] at e
              have HR := Aside0.mk e.symm
              clear e
              go_wp2_with (go_at_call 62; refine (bad_any _ b s _ _ _ HA1.out).mono ?_; rintro e w2 ⟨rfl, ha2, ho2⟩; have HA2 := Aside0.mk ha2; have HO2 := Aside0.mk ho2; clear ha2 ho2)
              go_ret
              exact ⟨⟨0, Nat.zero_le _, rfl, fun a j he => by rw [HR.out] at he; cases he⟩, by rw [HR.out]; exact ⟨s, i, 2, HA2.out⟩, (HO.out.trans HO1.out).trans HO2.out⟩
            · have hhi' : ((s[i]).toNat : Int) ≤ 57 := by omega
              have htn : (((s[i]).toNat : Int)).toNat = (s[i]).toNat := Int.toNat_natCast _
              rw [htn] at e
              clear htn
              cases first with
              | true =>
                by_cases hq : (most - ((s[i]).toNat - 48)) / 10 < n
                · rw [if_pos (.inr (.inr (.inr hq)))] at e
                  have HR := Aside0.mk e.symm
                  have hq' : ((most : Int) - (((s[i]).toNat : Int) - 48)) / 10 < n := by omega
                  clear e hq
                  go_wp2_with (go_at_call 62; refine (bad_any _ b s _ _ _ HA1.out).mono ?_; rintro e w2 ⟨rfl, ha2, ho2⟩; have HA2 := Aside0.mk ha2; have HO2 := Aside0.mk ho2; clear ha2 ho2)
                  go_ret
                  exact ⟨⟨0, Nat.zero_le _, rfl, fun a j he => by rw [HR.out] at he; cases he⟩, by rw [HR.out]; exact ⟨s, i, 2, HA2.out⟩, (HO.out.trans HO1.out).trans HO2.out⟩
                · rw [if_neg (by simp; omega)] at e
                  have HR := Aside0.mk e
                  have hq' : ¬ ((most : Int) - (((s[i]).toNat : Int) - 48)) / 10 < n := by omega
                  have hd : 10 * (n : Int) + (((s[i]).toNat : Int) - 48) ≤ most := by omega
                  clear e hq
                  go_wp2_with fail
                  go_roundw
                  case rel => exact ⟨10 * n + ((s[i]).toNat - 48), false, by omega, by go_num, rfl, ⟨.good (i + 1) (by omega) ⟨e0, by have := HA1.out.set1 ((i : Int) + 1); exact this⟩ (by rw [← HR.out, show s.size - (i + 1) = f from by have := HF.out; omega])⟩, ⟨(HO.out.trans HO1.out).set 1 _⟩⟩
                  case measure => rw [mp_at H.out, mp_at (s := s) (i := i + 1) (HA1.out.set1 ((i : Int) + 1))]; simp; omega
              | false =>
                by_cases hn0 : n = 0
                · rw [if_pos (.inr (.inr (.inl ⟨rfl, hn0⟩)))] at e
                  subst hn0
                  have HR := Aside0.mk e.symm
                  clear e
                  go_wp2_with (go_at_call 62; refine (bad_any _ b s _ _ _ HA1.out).mono ?_; rintro e w2 ⟨rfl, ha2, ho2⟩; have HA2 := Aside0.mk ha2; have HO2 := Aside0.mk ho2; clear ha2 ho2)
                  go_ret
                  exact ⟨⟨0, Nat.zero_le _, rfl, fun a j he => by rw [HR.out] at he; cases he⟩, by rw [HR.out]; exact ⟨s, i, 2, HA2.out⟩, (HO.out.trans HO1.out).trans HO2.out⟩
                · have hnp : ((n : Int) == 0) = false := by rw [beq_eq_false_iff_ne]; omega
                  by_cases hq : (most - ((s[i]).toNat - 48)) / 10 < n
                  · rw [if_pos (.inr (.inr (.inr hq)))] at e
                    have HR := Aside0.mk e.symm
                    have hq' : ((most : Int) - (((s[i]).toNat : Int) - 48)) / 10 < n := by omega
                    clear e hq hn0
                    go_wp2_with (go_at_call 62; refine (bad_any _ b s _ _ _ HA1.out).mono ?_; rintro e w2 ⟨rfl, ha2, ho2⟩; have HA2 := Aside0.mk ha2; have HO2 := Aside0.mk ho2; clear ha2 ho2)
                    go_ret
                    exact ⟨⟨0, Nat.zero_le _, rfl, fun a j he => by rw [HR.out] at he; cases he⟩, by rw [HR.out]; exact ⟨s, i, 2, HA2.out⟩, (HO.out.trans HO1.out).trans HO2.out⟩
                  · rw [if_neg (by rintro (h | h | h | h); all_goals omega)] at e
                    have HR := Aside0.mk e
                    have hq' : ¬ ((most : Int) - (((s[i]).toNat : Int) - 48)) / 10 < n := by omega
                    have hd : 10 * (n : Int) + (((s[i]).toNat : Int) - 48) ≤ most := by omega
                    clear e hq hn0
                    go_wp2_with fail
                    go_roundw
                    case rel => exact ⟨10 * n + ((s[i]).toNat - 48), false, by omega, by go_num, rfl, ⟨.good (i + 1) (by omega) ⟨e0, by have := HA1.out.set1 ((i : Int) + 1); exact this⟩ (by rw [← HR.out, show s.size - (i + 1) = f from by have := HF.out; omega])⟩, ⟨(HO.out.trans HO1.out).set 1 _⟩⟩
                    case measure => rw [mp_at H.out, mp_at (s := s) (i := i + 1) (HA1.out.set1 ((i : Int) + 1))]; simp; omega
      · have HR := Aside0.mk (show R = .no 3 by rw [← e, show s.size - i = 0 from by omega, digR])
        have HI := Aside0.mk hlt
        clear e hlt
        go_wp2_with (go_at_call 56; refine (here_end _ b s i e0 hs HI.out H.out).mono ?_; rintro e w1 ⟨rfl, ha1, ho1⟩; obtain ⟨⟨g0, g1, g2, g3⟩, q1, q2, q3⟩ := PAt.cells ha1; have HA1 := Aside0.mk ha1; have HO1 := Aside0.mk ho1; clear ha1 ho1)
        go_ret
        exact ⟨⟨0, Nat.zero_le _, rfl, fun a j he => by rw [HR.out] at he; cases he⟩, by rw [HR.out]; exact ⟨s, i, e0, HA1.out⟩, HO.out.trans HO1.out⟩
end Go.Proofs.YtbdfjiobegadjaaDoor.Pl
