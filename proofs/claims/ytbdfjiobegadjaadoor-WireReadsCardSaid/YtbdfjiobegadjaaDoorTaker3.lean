/- The walks of wire's taker: a number. -/
import Derived.Test.YtbdfjiobegadjaaDoorTaker2
namespace Go.Proofs.YtbdfjiobegadjaaDoor.Tk
open Go Go.RowKit Go.Proofs.YtbdfjiobegadjaaDoor.PWireMemory Go.Proofs.YtbdfjiobegadjaaDoorW.PrintWords Go.Proofs.YtbdfjiobegadjaaDoorW.PrintLast Go.Proofs.YtbdfjiobegadjaaDoorW.PrintMore
set_option linter.unusedVariables false
set_option linter.unusedSectionVars false
set_option linter.unusedSimpArgs false
/-- A reading without an answer, with one put in. -/
def Res.as {α β : Type} (r : Res α) (b : β) : Res β := match r with | .ok _ i => .ok b i | .no k => .no k
/-- Digits up to the line's end: so many bytes are left, n so far, is it the first? -/
def digs (s : ByteArray) (most : Nat) : Nat → Nat → Bool → Nat → Res Nat
  | 0, _, _, _ => .no 3
  | f + 1, n, first, i =>
    if bt s i = 13 ∧ first = false then (expect s [10] (i + 1)).as n
    else if bt s i < 48 ∨ 57 < bt s i ∨ (first = false ∧ n = 0) ∨ (most - ((bt s i).toNat - 48)) / 10 < n then .no 1
    else digs s most f (10 * n + ((bt s i).toNat - 48)) false (i + 1)
/-- How much there is to be read: for the measure. -/
def mz (W : World) (b : Nat) : Nat := match W.heap[b]? with
  | some (.cells cs _ _) => (match (cs[0]? : Option Value) with | some (.string r) => r.size | _ => 0) + (match (cs[1]? : Option Value) with | some .nilIface => 1 | _ => 0)
  | _ => 0
theorem mz_good {W : World} {b : Nat} {s : ByteArray} {i : Nat} (h : Good W b s i) : mz W b = s.size - i + 1 := by
  unfold mz; rw [h]; simp [tail_size]
theorem mz_bad {W : World} {b : Nat} {r : ByteArray} {ad : Nat → Addr} {k : Nat} (h : At W b r (ev ad k)) : mz W b = r.size := by
  unfold mz; rw [h]; simp
inductive Cnt (b : Nat) (s : ByteArray) (ad : Nat → Addr) (most : Nat) (R : Res Nat) (n many : Nat) (c : Int) (W : World) : Prop
  | good (i : Nat) (hi : i < s.size) (hm : many ≤ i) (hc : c = bt s i) (h : Good W b s (i + 1)) (e : digs s most (s.size - i) n (many == 0) i = R) : Cnt b s ad most R n many c W
  | bad (k : Nat) (h : Bad W b ad k) (hm : many ≤ s.size) (e : R = .no k) : Cnt b s ad most R n many c W
structure CountOk (b : Nat) (s : ByteArray) (ad : Nat → Addr) (most : Nat) (R : Res Nat) (W : World) (e : Ending) (W' : World) : Prop where
  end_ : ∃ v : Nat, v ≤ most ∧ e = .returned (.int .u64 v) ∧ ∀ a j, R = .ok a j → v = a
  at_ : Leaves W' b s ad R
  only : Only b W W'
set_option maxHeartbeats 1000000 in
theorem count_any (W : World) (N b : Nat) (s : ByteArray) (ad : Nat → Addr) (most : Nat) (R : Res Nat) (c : Int) (hs : s.size ≤ 140738562097152) (h9 : 9 ≤ most) (hmo : most ≤ 9223372036854775808) (hN : N ≤ b) (hE : EN N W ad)
    (hc0 : 0 ≤ c) (hc1 : c ≤ 255) (h : Cnt b s ad most R 0 0 c W) :
    Calls Tryd.prog 54 #[.pointer (some ⟨b, 0, none⟩), .int .u8 c, .int .u64 most] W (CountOk b s ad most R W) := by
  have hbl : b < W.heap.size := by
    cases h with
    | good i hi hm hc h e => exact blk_lt h
    | bad k h hm e => obtain ⟨r, h⟩ := h; exact blk_lt h
  have HE := Aside0.mk hE
  have HU := Aside0.mk h
  clear hE h
  go_enter Tryd.func54, Tryd.ntmps54
  go_wp2_with fail
  go_loopw [1, 7, 8] (fun v1 v7 v8 W' => ∃ (n many : Nat) (c : Int), n ≤ most ∧ many ≤ s.size ∧ 0 ≤ c ∧ c ≤ 255 ∧ v1 = .int .u8 c ∧ v7 = .int .u64 n ∧ v8 = .int .i64 many ∧ Aside0 (Cnt b s ad most R n many c W') ∧ Aside0 (Only b W W')) (fun _ _ _ W' => mz W' b)
  case atStart => exact ⟨0, 0, c, by omega, by omega, hc0, hc1, rfl, rfl, rfl, HU, ⟨Only.refl _ _⟩⟩
  case round =>
    clear HU hc0 hc1
    obtain ⟨n, many, c, hn, hmany, hc0, hc1, rfl, rfl, rfl, HU, HO⟩ := hrel
    have HE' := Aside0.mk (HE.out.only HO.out hN (Nat.le_of_lt hbl))
    have hU := HU.out
    clear HU
    cases hU with
    | bad k h hm e =>
      obtain ⟨r, h⟩ := h
      obtain ⟨h0, h1, f0, f1⟩ := At.cells h
      have H := Aside0.mk h
      have HR := Aside0.mk e
      clear h e
      go_wp2_with fail
      go_ret
      exact ⟨⟨0, Nat.zero_le _, rfl, fun a j he => by rw [HR.out] at he; cases he⟩, by rw [HR.out]; exact ⟨r, H.out⟩, HO.out⟩
    | good i hi hm hc h e =>
      obtain ⟨h0, h1, f0, f1⟩ := At.cells h
      obtain ⟨f, hf⟩ : ∃ f, s.size - i = f + 1 := ⟨s.size - i - 1, by omega⟩
      rw [hf, digs, ← hc] at e
      have HF := Aside0.mk hf
      have HC := Aside0.mk hc
      have H := Aside0.mk h
      clear hf hc h
      by_cases h13 : c = 13
      · subst h13
        by_cases hm0 : many = 0
        · subst hm0
          rw [if_neg (by simp), if_pos (by omega)] at e
          have HR := Aside0.mk e.symm
          clear e
          go_wp2_with (go_at_call 55; refine (wrong_good _ b _ H.out ad (HE'.out.errs.cell 1 (by omega))).mono ?_; rintro e w2 ⟨rfl, ha2, ho2⟩; have HA2 := Aside0.mk ha2; have HO2 := Aside0.mk ho2; clear ha2 ho2)
          go_ret
          exact ⟨⟨0, Nat.zero_le _, rfl, fun a j he => by rw [HR.out] at he; cases he⟩, by rw [HR.out]; exact ⟨_, HA2.out⟩, HO.out.trans HO2.out⟩
        · have hmp : 0 < (many : Int) := by omega
          rw [if_pos ⟨rfl, by simpa using hm0⟩] at e
          have HR := Aside0.mk e.symm
          clear e hm0
          go_wp2_with (go_at_call 73; refine (these_any _ N b s ⟨#[10]⟩ ad (i + 1) (expect s [10] (i + 1)) (by decide) hN HE'.out (.good H.out rfl)).mono ?_; rintro e w2 ⟨rfl, ha2, ho2⟩; have HA2 := Aside0.mk ha2; have HO2 := Aside0.mk ho2; clear ha2 ho2)
          go_ret
          refine ⟨⟨n, hn, rfl, fun a j he => ?_⟩, ?_, HO.out.trans HO2.out⟩
          · rw [HR.out] at he
            cases hx : expect s [10] (i + 1) with
            | ok u j' => rw [hx] at he; cases he; rfl
            | no k => rw [hx] at he; cases he
          · rw [HR.out]
            have := HA2.out
            cases hx : expect s [10] (i + 1) with
            | ok u j' => rw [hx] at this; exact this
            | no k => rw [hx] at this; exact this
      · rw [if_neg (fun x => h13 x.1)] at e
        have hc13 : (c == 13) = false := beq_eq_false_iff_ne.mpr h13
        clear h13
        by_cases hlo : c < 48
        · rw [if_pos (.inl hlo)] at e
          have HR := Aside0.mk e.symm
          clear e
          go_wp2_with (go_at_call 55; refine (wrong_good _ b _ H.out ad (HE'.out.errs.cell 1 (by omega))).mono ?_; rintro e w2 ⟨rfl, ha2, ho2⟩; have HA2 := Aside0.mk ha2; have HO2 := Aside0.mk ho2; clear ha2 ho2)
          go_ret
          exact ⟨⟨0, Nat.zero_le _, rfl, fun a j he => by rw [HR.out] at he; cases he⟩, by rw [HR.out]; exact ⟨_, HA2.out⟩, HO.out.trans HO2.out⟩
        · have hlo' : 48 ≤ c := by omega
          by_cases hhi : 57 < c
          · rw [if_pos (.inr (.inl hhi))] at e
            have HR := Aside0.mk e.symm
            clear e
            go_wp2_with (go_at_call 55; refine (wrong_good _ b _ H.out ad (HE'.out.errs.cell 1 (by omega))).mono ?_; rintro e w2 ⟨rfl, ha2, ho2⟩; have HA2 := Aside0.mk ha2; have HO2 := Aside0.mk ho2; clear ha2 ho2)
            go_ret
            exact ⟨⟨0, Nat.zero_le _, rfl, fun a j he => by rw [HR.out] at he; cases he⟩, by rw [HR.out]; exact ⟨_, HA2.out⟩, HO.out.trans HO2.out⟩
          · have hhi' : c ≤ 57 := by omega
            have HT := Aside0.mk (show (c.toNat : Int) = c from Int.toNat_of_nonneg hc0)
            by_cases hm0 : many = 0
            · subst hm0
              by_cases hq : (most - (c.toNat - 48)) / 10 < n
              · rw [if_pos (.inr (.inr (.inr hq)))] at e
                have HR := Aside0.mk e.symm
                have hq' : ((most : Int) - (c - 48)) / 10 < n := by omega
                clear e hq
                go_wp2_with (go_at_call 55; refine (wrong_good _ b _ H.out ad (HE'.out.errs.cell 1 (by omega))).mono ?_; rintro e w2 ⟨rfl, ha2, ho2⟩; have HA2 := Aside0.mk ha2; have HO2 := Aside0.mk ho2; clear ha2 ho2)
                go_ret
                exact ⟨⟨0, Nat.zero_le _, rfl, fun a j he => by rw [HR.out] at he; cases he⟩, by rw [HR.out]; exact ⟨_, HA2.out⟩, HO.out.trans HO2.out⟩
              · rw [if_neg (by simp; omega)] at e
                have HR := Aside0.mk e
                have hq' : ¬ ((most : Int) - (c - 48)) / 10 < n := by omega
                have hd : 10 * (n : Int) + (c - 48) ≤ most := by omega
                have HD := Aside0.mk (show 10 * n + (c.toNat - 48) ≤ most by omega)
                clear e hq
                by_cases hi2 : i + 1 < s.size
                · have hb2 : bt s ((i + 1 : Nat) : Int) = ((s[i + 1]).toNat : Int) := by rw [← bt_at s ((i + 1 : Nat) : Int) (by simpa using hi2)]; rfl
                  have HB2 := Aside0.mk hb2
                  have hr2 : ((s[i + 1]).toNat : Int) ≤ 255 := by have := (s[i + 1]).toNat_lt; omega
                  clear hb2
                  go_wp2_with (go_at_call 50; refine (byte_some _ b s (i + 1) hi2 H.out).mono ?_; rintro e w2 ⟨rfl, ha2, ho2⟩; have HA2 := Aside0.mk ha2; have HO2 := Aside0.mk ho2; clear ha2 ho2)
                  go_roundw
                  case rel => exact ⟨10 * n + (c.toNat - 48), 1, _, by have := HD.out; omega, by omega, by omega, hr2, rfl, by have := HT.out; exact congrArg _ (by omega), by go_num, ⟨.good (i + 1) hi2 (by omega) HB2.out.symm HA2.out (by rw [← HR.out, show s.size - (i + 1) = f from by have := HF.out; omega]; simp)⟩, ⟨HO.out.trans HO2.out⟩⟩
                  case measure => rw [mz_good H.out, mz_good HA2.out]; omega
                · have HI2 := Aside0.mk hi2
                  clear hi2
                  go_wp2_with (go_at_call 50; refine (byte_end _ b s (i + 1) HI2.out H.out ad (HE'.out.errs.cell 3 (by omega))).mono ?_; rintro e w2 ⟨rfl, ha2, ho2⟩; have HA2 := Aside0.mk ha2; have HO2 := Aside0.mk ho2; clear ha2 ho2)
                  go_roundw
                  case rel => exact ⟨10 * n + (c.toNat - 48), 1, 0, by have := HD.out; omega, by omega, by omega, by omega, rfl, by have := HT.out; exact congrArg _ (by omega), by go_num, ⟨.bad 3 ⟨_, HA2.out⟩ (by omega) (by rw [← HR.out, show f = 0 from by have := HF.out; have := HI2.out; omega]; rfl)⟩, ⟨HO.out.trans HO2.out⟩⟩
                  case measure => rw [mz_good H.out, mz_bad HA2.out, tail_size]; omega
            · have hmp : 0 < (many : Int) := by omega
              by_cases hn0 : n = 0
              · rw [if_pos (.inr (.inr (.inl ⟨by simpa using hm0, hn0⟩)))] at e
                subst hn0
                have HR := Aside0.mk e.symm
                clear e hm0
                go_wp2_with (go_at_call 55; refine (wrong_good _ b _ H.out ad (HE'.out.errs.cell 1 (by omega))).mono ?_; rintro e w2 ⟨rfl, ha2, ho2⟩; have HA2 := Aside0.mk ha2; have HO2 := Aside0.mk ho2; clear ha2 ho2)
                go_ret
                exact ⟨⟨0, Nat.zero_le _, rfl, fun a j he => by rw [HR.out] at he; cases he⟩, by rw [HR.out]; exact ⟨_, HA2.out⟩, HO.out.trans HO2.out⟩
              · have hnp : ((n : Int) == 0) = false := by rw [beq_eq_false_iff_ne]; omega
                by_cases hq : (most - (c.toNat - 48)) / 10 < n
                · rw [if_pos (.inr (.inr (.inr hq)))] at e
                  have HR := Aside0.mk e.symm
                  have hq' : ((most : Int) - (c - 48)) / 10 < n := by omega
                  clear e hq hm0 hn0
                  go_wp2_with (go_at_call 55; refine (wrong_good _ b _ H.out ad (HE'.out.errs.cell 1 (by omega))).mono ?_; rintro e w2 ⟨rfl, ha2, ho2⟩; have HA2 := Aside0.mk ha2; have HO2 := Aside0.mk ho2; clear ha2 ho2)
                  go_ret
                  exact ⟨⟨0, Nat.zero_le _, rfl, fun a j he => by rw [HR.out] at he; cases he⟩, by rw [HR.out]; exact ⟨_, HA2.out⟩, HO.out.trans HO2.out⟩
                · rw [if_neg (by rintro (h | h | h | h); all_goals omega)] at e
                  have HR := Aside0.mk e
                  have hq' : ¬ ((most : Int) - (c - 48)) / 10 < n := by omega
                  have hd : 10 * (n : Int) + (c - 48) ≤ most := by omega
                  have HD := Aside0.mk (show 10 * n + (c.toNat - 48) ≤ most by omega)
                  clear e hq hm0 hn0
                  by_cases hi2 : i + 1 < s.size
                  · have hb2 : bt s ((i + 1 : Nat) : Int) = ((s[i + 1]).toNat : Int) := by rw [← bt_at s ((i + 1 : Nat) : Int) (by simpa using hi2)]; rfl
                    have HB2 := Aside0.mk hb2
                    have hr2 : ((s[i + 1]).toNat : Int) ≤ 255 := by have := (s[i + 1]).toNat_lt; omega
                    clear hb2
                    go_wp2_with (go_at_call 50; refine (byte_some _ b s (i + 1) hi2 H.out).mono ?_; rintro e w2 ⟨rfl, ha2, ho2⟩; have HA2 := Aside0.mk ha2; have HO2 := Aside0.mk ho2; clear ha2 ho2)
                    go_roundw
                    case rel => exact ⟨10 * n + (c.toNat - 48), many + 1, _, by have := HD.out; omega, by omega, by omega, hr2, rfl, by have := HT.out; exact congrArg _ (by omega), by go_num, ⟨.good (i + 1) hi2 (by omega) HB2.out.symm HA2.out (by rw [← HR.out, show s.size - (i + 1) = f from by have := HF.out; omega]; simp)⟩, ⟨HO.out.trans HO2.out⟩⟩
                    case measure => rw [mz_good H.out, mz_good HA2.out]; omega
                  · have HI2 := Aside0.mk hi2
                    clear hi2
                    go_wp2_with (go_at_call 50; refine (byte_end _ b s (i + 1) HI2.out H.out ad (HE'.out.errs.cell 3 (by omega))).mono ?_; rintro e w2 ⟨rfl, ha2, ho2⟩; have HA2 := Aside0.mk ha2; have HO2 := Aside0.mk ho2; clear ha2 ho2)
                    go_roundw
                    case rel => exact ⟨10 * n + (c.toNat - 48), many + 1, 0, by have := HD.out; omega, by omega, by omega, by omega, rfl, by have := HT.out; exact congrArg _ (by omega), by go_num, ⟨.bad 3 ⟨_, HA2.out⟩ (by omega) (by rw [← HR.out, show f = 0 from by have := HF.out; have := HI2.out; omega]; rfl)⟩, ⟨HO.out.trans HO2.out⟩⟩
                    case measure => rw [mz_good H.out, mz_bad HA2.out, tail_size]; omega
end Go.Proofs.YtbdfjiobegadjaaDoor.Tk
