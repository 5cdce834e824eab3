/- The walks of wire's taker: a signed number. -/
import Derived.Test.YtbdfjiobegadjaaDoorTaker4
namespace Go.Proofs.YtbdfjiobegadjaaDoor.Tk
open Go Go.RowKit Go.Proofs.YtbdfjiobegadjaaDoor.PWireMemory Go.Proofs.YtbdfjiobegadjaaDoorW.PrintWords Go.Proofs.YtbdfjiobegadjaaDoorW.PrintLast Go.Proofs.YtbdfjiobegadjaaDoorW.PrintMore
set_option linter.unusedVariables false
set_option linter.unusedSectionVars false
set_option linter.unusedSimpArgs false
def Res.map {α β : Type} (f : α → β) : Res α → Res β
  | .ok a i => .ok (f a) i
  | .no k => .no k
def maxI : Nat := 9223372036854775807
def maxU : Nat := 9223372036854775808
/-- A number, whatever its sign. -/
def numS (s : ByteArray) (i : Nat) : Res Int :=
  if s.size ≤ i then .no 3
  else if bt s i ≠ 45 then (digs s maxI (s.size - i) 0 true i).map fun n : Nat => (n : Int)
  else if s.size ≤ i + 1 then .no 3
  else if bt s ((i + 1 : Nat) : Int) = 48 then .no 1
  else (digs s maxU (s.size - (i + 1)) 0 true (i + 1)).map fun n : Nat => -(n : Int)
/-- The taker, good at i with a reading's result ahead, or bad. -/
def Ahead {α : Type} (b : Nat) (s : ByteArray) (ad : Nat → Addr) (i : Nat) (p R : Res α) (W : World) : Prop := (Good W b s i ∧ p = R) ∨ ∃ k, Bad W b ad k ∧ R = .no k
theorem Ahead.lt {α : Type} {b : Nat} {s : ByteArray} {ad : Nat → Addr} {i : Nat} {p R : Res α} {W : World} (h : Ahead b s ad i p R W) : b < W.heap.size := by
  rcases h with ⟨h, _⟩ | ⟨k, ⟨r, h⟩, _⟩
  · exact blk_lt h
  · exact blk_lt h
theorem bt_nat (s : ByteArray) (i : Nat) (h : i < s.size) : bt s (i : Int) = ((s[i]).toNat : Int) := by rw [← bt_at s (i : Int) (by simpa using h)]; rfl
theorem count_maxI (W : World) (N b : Nat) (s : ByteArray) (ad : Nat → Addr) (R : Res Nat) (c : Int) (hs : s.size ≤ 140738562097152) (hN : N ≤ b) (hE : EN N W ad)
    (hc0 : 0 ≤ c) (hc1 : c ≤ 255) (h : Cnt b s ad maxI R 0 0 c W) : Calls Tryd.prog 54 #[.pointer (some ⟨b, 0, none⟩), .int .u8 c, .int .u64 9223372036854775807] W (CountOk b s ad maxI R W) :=
  count_any W N b s ad maxI R c hs (by decide) (by decide) hN hE hc0 hc1 h
theorem count_maxU (W : World) (N b : Nat) (s : ByteArray) (ad : Nat → Addr) (R : Res Nat) (c : Int) (hs : s.size ≤ 140738562097152) (hN : N ≤ b) (hE : EN N W ad)
    (hc0 : 0 ≤ c) (hc1 : c ≤ 255) (h : Cnt b s ad maxU R 0 0 c W) : Calls Tryd.prog 54 #[.pointer (some ⟨b, 0, none⟩), .int .u8 c, .int .u64 9223372036854775808] W (CountOk b s ad maxU R W) :=
  count_any W N b s ad maxU R c hs (by decide) (by decide) hN hE hc0 hc1 h
theorem wrap_maxI (v : Nat) (h : v ≤ maxI) : wrap64 (v : Int) = v := by unfold maxI at h; unfold wrap64; omega
theorem wrap_neg (v : Nat) (h : v ≤ maxU) : wrap64 (-(wrap64 (v : Int))) = -(v : Int) := by unfold maxU at h; unfold wrap64; omega
structure NumOk (b : Nat) (s : ByteArray) (ad : Nat → Addr) (R : Res Int) (W : World) (e : Ending) (W' : World) : Prop where
  end_ : ∃ v : Int, e = .returned (.int .i64 v) ∧ ∀ a j, R = .ok a j → v = a
  at_ : Leaves W' b s ad R
  only : Only b W W'
theorem leaves_map {α β : Type} {W : World} {b : Nat} {s : ByteArray} {ad : Nat → Addr} {R : Res α} (f : α → β) (h : Leaves W b s ad R) : Leaves W b s ad (R.map f) := by cases R <;> exact h
theorem map_ok {α β : Type} {R : Res α} {f : α → β} {a : β} {j : Nat} (h : R.map f = .ok a j) : ∃ x, R = .ok x j ∧ a = f x := by
  cases R with
  | ok x i => simp only [Res.map, Res.ok.injEq] at h; exact ⟨x, by rw [h.2], h.1.symm⟩
  | no k => cases h
set_option maxHeartbeats 2000000 in
theorem num_any (W : World) (N b : Nat) (s : ByteArray) (ad : Nat → Addr) (i : Nat) (R : Res Int) (hs : s.size ≤ 140738562097152) (hN : N ≤ b) (hE : EN N W ad) (h : Ahead b s ad i (numS s i) R W) :
    Calls Tryd.prog 52 #[.pointer (some ⟨b, 0, none⟩)] W (NumOk b s ad R W) := by
  have hbl := h.lt
  have HE := Aside0.mk hE
  clear hE
  rcases h with ⟨h, e⟩ | ⟨k, ⟨r, h⟩, e⟩
  · have H := Aside0.mk h
    clear h
    unfold numS at e
    by_cases hi : s.size ≤ i
    · rw [if_pos hi] at e
      have HR := Aside0.mk e.symm
      have HI := Aside0.mk (show ¬ i < s.size by omega)
      clear e hi
      go_enter Tryd.func52, Tryd.ntmps52
      go_wp2_with (first | (go_at_call 50; refine (byte_end _ b s i HI.out H.out ad (HE.out.errs.cell 3 (by omega))).mono ?_; rintro e w1 ⟨rfl, ha1, ho1⟩; have HA1 := Aside0.mk ha1; have HO1 := Aside0.mk ho1; clear ha1 ho1) | (go_at_call 54; refine (count_maxI _ N b s ad (.no 3) 0 hs hN (HE.out.only HO1.out hN (Nat.le_of_lt hbl)) (by omega) (by omega) (.bad 3 ⟨_, HA1.out⟩ (by omega) rfl)).mono ?_; rintro e w2 ⟨⟨v, hv, rfl, hvr⟩, ha2, ho2⟩; have HV := Aside0.mk hv; have HA2 := Aside0.mk ha2; have HO2 := Aside0.mk ho2; clear hv hvr ha2 ho2))
      go_ret
      exact ⟨⟨_, rfl, fun a j he => by rw [HR.out] at he; cases he⟩, by rw [HR.out]; exact HA2.out, HO1.out.trans HO2.out⟩
    · rw [if_neg hi, bt_nat s i (by omega)] at e
      have hi' : i < s.size := by omega
      have hr := (s[i]).toNat_lt
      by_cases hm : ((s[i]).toNat : Int) = 45
      · rw [if_neg (by simpa using hm)] at e
        have hmb : (((s[i]).toNat : Int) != 45) = false := by rw [hm]; rfl
        clear hm hi
        by_cases hi2 : s.size ≤ i + 1
        · rw [if_pos hi2] at e
          have HR := Aside0.mk e.symm
          have HI := Aside0.mk (show ¬ i + 1 < s.size by omega)
          clear e hi2
          go_enter Tryd.func52, Tryd.ntmps52
          go_wp2_with fail
          (go_at_call 50; refine (byte_some _ b s i hi' H.out).mono ?_; rintro e w1 ⟨rfl, ha1, ho1⟩; obtain ⟨g0, g1, _, _⟩ := At.cells ha1; have HA1 := Aside0.mk ha1; have HO1 := Aside0.mk ho1; clear ha1 ho1)
          go_wp2_with fail
          go_at_call 50; refine (byte_end _ b s (i + 1) HI.out HA1.out ad ((HE.out.only HO1.out hN (Nat.le_of_lt hbl)).errs.cell 3 (by omega))).mono ?_; rintro e w2 ⟨rfl, ha2, ho2⟩; obtain ⟨k0, k1, _, _⟩ := At.cells ha2; have HA2 := Aside0.mk ha2; have HO2 := Aside0.mk ho2; clear ha2 ho2
          go_wp2_with (go_at_call 54; refine (count_maxU _ N b s ad (.no 3) 0 hs hN (HE.out.only (HO1.out.trans HO2.out) hN (Nat.le_of_lt hbl)) (by omega) (by omega) (.bad 3 ⟨_, HA2.out⟩ (by omega) rfl)).mono ?_; rintro e w3 ⟨⟨v, hv, rfl, hvr⟩, ha3, ho3⟩; have HV := Aside0.mk hv; have HA3 := Aside0.mk ha3; have HO3 := Aside0.mk ho3; clear hv hvr ha3 ho3)
          go_ret
          exact ⟨⟨_, rfl, fun a j he => by rw [HR.out] at he; cases he⟩, by rw [HR.out]; exact HA3.out, (HO1.out.trans HO2.out).trans HO3.out⟩
        · rw [if_neg hi2, bt_nat s (i + 1) (by omega)] at e
          have hi2' : i + 1 < s.size := by omega
          have hr2 := (s[i + 1]).toNat_lt
          by_cases h48 : ((s[i + 1]).toNat : Int) = 48
          · rw [if_pos h48] at e
            have HR := Aside0.mk e.symm
            have h48b : (((s[i + 1]).toNat : Int) == 48) = true := beq_iff_eq.mpr h48
            clear e hi2 h48
            go_enter Tryd.func52, Tryd.ntmps52
            go_wp2_with fail
            (go_at_call 50; refine (byte_some _ b s i hi' H.out).mono ?_; rintro e w1 ⟨rfl, ha1, ho1⟩; obtain ⟨g0, g1, _, _⟩ := At.cells ha1; have HA1 := Aside0.mk ha1; have HO1 := Aside0.mk ho1; clear ha1 ho1)
            go_wp2_with fail
            go_at_call 50; refine (byte_some _ b s (i + 1) hi2' HA1.out).mono ?_; rintro e w2 ⟨rfl, ha2, ho2⟩; obtain ⟨k0, k1, _, _⟩ := At.cells ha2; have HA2 := Aside0.mk ha2; have HO2 := Aside0.mk ho2; clear ha2 ho2
            go_wp2_with fail
            go_at_call 55; refine (wrong_good _ b _ HA2.out ad ((HE.out.only (HO1.out.trans HO2.out) hN (Nat.le_of_lt hbl)).errs.cell 1 (by omega))).mono ?_; rintro e w3 ⟨rfl, ha3, ho3⟩; have HA3 := Aside0.mk ha3; have HO3 := Aside0.mk ho3; clear ha3 ho3
            go_wp2_with (go_at_call 54; refine (count_maxU _ N b s ad (.no 1) _ hs hN (HE.out.only ((HO1.out.trans HO2.out).trans HO3.out) hN (Nat.le_of_lt hbl)) (by omega) (by omega) (.bad 1 ⟨_, HA3.out⟩ (by omega) rfl)).mono ?_; rintro e w4 ⟨⟨v, hv, rfl, hvr⟩, ha4, ho4⟩; have HV := Aside0.mk hv; have HA4 := Aside0.mk ha4; have HO4 := Aside0.mk ho4; clear hv hvr ha4 ho4)
            go_ret
            exact ⟨⟨_, rfl, fun a j he => by rw [HR.out] at he; cases he⟩, by rw [HR.out]; exact HA4.out, ((HO1.out.trans HO2.out).trans HO3.out).trans HO4.out⟩
          · rw [if_neg h48] at e
            have HR := Aside0.mk e.symm
            have h48b : (((s[i + 1]).toNat : Int) == 48) = false := beq_eq_false_iff_ne.mpr h48
            have HB2 := Aside0.mk (bt_nat s (i + 1) hi2')
            clear e hi2 h48
            go_enter Tryd.func52, Tryd.ntmps52
            go_wp2_with fail
            (go_at_call 50; refine (byte_some _ b s i hi' H.out).mono ?_; rintro e w1 ⟨rfl, ha1, ho1⟩; obtain ⟨g0, g1, _, _⟩ := At.cells ha1; have HA1 := Aside0.mk ha1; have HO1 := Aside0.mk ho1; clear ha1 ho1)
            go_wp2_with fail
            go_at_call 50; refine (byte_some _ b s (i + 1) hi2' HA1.out).mono ?_; rintro e w2 ⟨rfl, ha2, ho2⟩; obtain ⟨k0, k1, _, _⟩ := At.cells ha2; have HA2 := Aside0.mk ha2; have HO2 := Aside0.mk ho2; clear ha2 ho2
            go_wp2_with (go_at_call 54; refine (count_maxU _ N b s ad (digs s maxU (s.size - (i + 1)) 0 true (i + 1)) _ hs hN (HE.out.only (HO1.out.trans HO2.out) hN (Nat.le_of_lt hbl)) (by omega) (by omega) (.good (i + 1) hi2' (by omega) HB2.out.symm HA2.out rfl)).mono ?_; rintro e w3 ⟨⟨v, hv, rfl, hvr⟩, ha3, ho3⟩; have HV := Aside0.mk hv; have HVR := Aside0.mk hvr; have HA3 := Aside0.mk ha3; have HO3 := Aside0.mk ho3; clear hv hvr ha3 ho3)
            go_ret
            refine ⟨⟨_, rfl, fun a j he => ?_⟩, by rw [HR.out]; exact leaves_map _ HA3.out, (HO1.out.trans HO2.out).trans HO3.out⟩
            rw [HR.out] at he
            obtain ⟨x, hx, rfl⟩ := map_ok he
            rw [← HVR.out x j hx]
            exact wrap_neg v HV.out
      · rw [if_pos (by simpa using hm)] at e
        have HR := Aside0.mk e.symm
        have hmb : (((s[i]).toNat : Int) != 45) = true := bne_iff_ne.mpr hm
        have HB := Aside0.mk (bt_nat s i hi')
        clear hm hi e
        go_enter Tryd.func52, Tryd.ntmps52
        go_wp2_with fail
        (go_at_call 50; refine (byte_some _ b s i hi' H.out).mono ?_; rintro e w1 ⟨rfl, ha1, ho1⟩; obtain ⟨g0, g1, _, _⟩ := At.cells ha1; have HA1 := Aside0.mk ha1; have HO1 := Aside0.mk ho1; clear ha1 ho1)
        go_wp2_with (go_at_call 54; refine (count_maxI _ N b s ad (digs s maxI (s.size - i) 0 true i) _ hs hN (HE.out.only HO1.out hN (Nat.le_of_lt hbl)) (by omega) (by omega) (.good i hi' (by omega) HB.out.symm HA1.out rfl)).mono ?_; rintro e w3 ⟨⟨v, hv, rfl, hvr⟩, ha3, ho3⟩; have HV := Aside0.mk hv; have HVR := Aside0.mk hvr; have HA3 := Aside0.mk ha3; have HO3 := Aside0.mk ho3; clear hv hvr ha3 ho3)
        go_ret
        refine ⟨⟨_, rfl, fun a j he => ?_⟩, by rw [HR.out]; exact leaves_map _ HA3.out, HO1.out.trans HO3.out⟩
        rw [HR.out] at he
        obtain ⟨x, hx, rfl⟩ := map_ok he
        rw [← HVR.out x j hx]
        exact wrap_maxI v HV.out
  · have H := Aside0.mk h
    have HR := Aside0.mk e
    clear h e
    go_enter Tryd.func52, Tryd.ntmps52
    go_wp2_with (first | (go_at_call 50; refine (byte_bad _ b r ad k H.out).mono ?_; rintro e w1 ⟨rfl, ha1, ho1⟩; have HA1 := Aside0.mk ha1; have HO1 := Aside0.mk ho1; clear ha1 ho1) | (go_at_call 54; refine (count_maxI _ N b s ad (.no k) 0 hs hN (HE.out.only HO1.out hN (Nat.le_of_lt hbl)) (by omega) (by omega) (.bad k ⟨_, HA1.out⟩ (by omega) rfl)).mono ?_; rintro e w2 ⟨⟨v, hv, rfl, hvr⟩, ha2, ho2⟩; have HV := Aside0.mk hv; have HA2 := Aside0.mk ha2; have HO2 := Aside0.mk ho2; clear hv hvr ha2 ho2))
    go_ret
    exact ⟨⟨_, rfl, fun a j he => by rw [HR.out] at he; cases he⟩, by rw [HR.out]; exact HA2.out, HO1.out.trans HO2.out⟩
end Go.Proofs.YtbdfjiobegadjaaDoor.Tk
