/- The walks of the document's place: a signed number, a line. -/
import Derived.Test.YtbdfjiobegadjaaDoorPlace2
namespace Go.Proofs.YtbdfjiobegadjaaDoor.Pl
open Go Go.RowKit Go.Proofs.YtbdfjiobegadjaaDoor.Tk Go.Proofs.YtbdfjiobegadjaaDoor.PWireMemory Go.Proofs.YtbdfjiobegadjaaDoorW.PrintWords Go.Proofs.YtbdfjiobegadjaaDoorW.PrintLast Go.Proofs.YtbdfjiobegadjaaDoorW.PrintMore
set_option linter.unusedVariables false
set_option linter.unusedSectionVars false
set_option linter.unusedSimpArgs false
def numR (s : ByteArray) (i : Nat) : Res Int :=
  if s.size ≤ i then .no 3
  else if bt s i ≠ 45 then (digR s maxI (s.size - i) 0 true i).map fun n : Nat => (n : Int)
  else if s.size ≤ i + 1 then .no 3
  else if bt s ((i + 1 : Nat) : Int) = 48 then .no 1
  else (digR s maxU (s.size - (i + 1)) 0 true (i + 1)).map fun n : Nat => -(n : Int)
theorem map_next {α β : Type} (R : Res α) (f : α → β) (g : α → Nat → Res Unit) (h : β → Nat → Res Unit) (e : ∀ a j, g a j = h (f a) j) :
    (nextR R fun a j => (g a j).as a).map f = nextR (R.map f) fun b j => (h b j).as b := by
  cases R with
  | ok a j => simp only [nextR, Res.map, e]; cases h (f a) j <;> rfl
  | no k => rfl
theorem numS_numR (s : ByteArray) (i : Nat) : numS s i = nextR (numR s i) fun n j => (expect s [13, 10] j).as n := by
  unfold numS numR
  split
  · rfl
  · split
    · rw [digs_digR _ _ _ _ _ _ (by omega)]; exact map_next _ _ (fun _ j => expect s [13, 10] j) (fun _ j => expect s [13, 10] j) (fun _ _ => rfl)
    · split
      · rfl
      · split
        · rfl
        · rw [digs_digR _ _ _ _ _ _ (by omega)]; exact map_next _ _ (fun _ j => expect s [13, 10] j) (fun _ j => expect s [13, 10] j) (fun _ _ => rfl)
theorem dig_maxI (W : World) (b : Nat) (s : ByteArray) (i0 : Nat) (R : Res Nat) (hs : s.size ≤ 140737488351232) (hi0 : i0 ≤ s.size) (h : PAhead b s i0 (digR s maxI (s.size - i0) 0 true i0) R W) :
    Calls Tryd.prog 75 #[.pointer (some ⟨b, 0, none⟩), .int .u64 9223372036854775807] W (DigOk b s maxI R W) := digits_any W b s maxI i0 R hs (by decide) (by decide) hi0 h
theorem dig_maxU (W : World) (b : Nat) (s : ByteArray) (i0 : Nat) (R : Res Nat) (hs : s.size ≤ 140737488351232) (hi0 : i0 ≤ s.size) (h : PAhead b s i0 (digR s maxU (s.size - i0) 0 true i0) R W) :
    Calls Tryd.prog 75 #[.pointer (some ⟨b, 0, none⟩), .int .u64 9223372036854775808] W (DigOk b s maxU R W) := digits_any W b s maxU i0 R hs (by decide) (by decide) hi0 h
theorem wrap_negu (v : Nat) (h : v ≤ maxU) : wrap64 (IntKind.u64.wrap (-(v : Int))) = -(v : Int) := by
  unfold maxU at h; rw [IntKind.wrap_u64]; unfold wrap64; omega
structure PNumOk (b : Nat) (s : ByteArray) (R : Res Int) (W : World) (e : Ending) (W' : World) : Prop where
  end_ : ∃ v : Int, e = .returned (.int .i64 v) ∧ ∀ a j, R = .ok a j → v = a
  at_ : PLeaves W' b s R
  only : Only b W W'
theorem pleaves_map {α β : Type} {W : World} {b : Nat} {s : ByteArray} {R : Res α} (f : α → β) (h : PLeaves W b s R) : PLeaves W b s (R.map f) := by cases R <;> exact h
theorem pleaves_as {α β : Type} {W : World} {b : Nat} {s : ByteArray} {R : Res α} (x : β) (h : PLeaves W b s R) : PLeaves W b s (R.as x) := by cases R <;> exact h
theorem pno {α : Type} (k : Nat) {W : World} {b : Nat} {s s' : ByteArray} {i e : Int} (h : PAt W b s' i (wh k) e) : PLeaves W b s (Res.no (α := α) k) := ⟨s', i, e, h⟩
set_option maxHeartbeats 2000000 in
theorem pnum_any (W : World) (b : Nat) (s : ByteArray) (i : Nat) (R : Res Int) (hs : s.size ≤ 140737488351232) (h : PAhead b s i (numR s i) R W) :
    Calls Tryd.prog 58 #[.pointer (some ⟨b, 0, none⟩)] W (PNumOk b s R W) := by
  rcases h with ⟨⟨e0, h⟩, e⟩ | ⟨k, ⟨s', i', e0, h⟩, e⟩
  · have H := Aside0.mk h
    clear h
    unfold numR at e
    by_cases hi : s.size ≤ i
    · rw [if_pos hi] at e
      have HR := Aside0.mk e.symm
      have HI := Aside0.mk (show ¬ i < s.size by omega)
      clear e hi
      go_enter Tryd.func58, Tryd.ntmps58
      go_wp2_with (first | (go_at_call 56; refine (here_end _ b s i e0 hs HI.out H.out).mono ?_; rintro e w1 ⟨rfl, ha1, ho1⟩; have HA1 := Aside0.mk ha1; have HO1 := Aside0.mk ho1; clear ha1 ho1) | (go_at_call 75; refine (dig_maxI _ b s 0 (.no 3) hs (by omega) (.inr ⟨3, ⟨s, i, e0, HA1.out⟩, rfl⟩)).mono ?_; rintro e w2 ⟨⟨v, hv, rfl, hvr⟩, ha2, ho2⟩; have HA2 := Aside0.mk ha2; have HO2 := Aside0.mk ho2; clear hv hvr ha2 ho2))
      go_ret
      exact ⟨⟨_, rfl, fun a j he => by rw [HR.out] at he; cases he⟩, by rw [HR.out]; exact HA2.out, HO1.out.trans HO2.out⟩
    · rw [if_neg hi, bt_nat s i (by omega)] at e
      have hi' : i < s.size := by omega
      have hr := (s[i]).toNat_lt
      by_cases hm : ((s[i]).toNat : Int) = 45
      · rw [if_neg (by simpa using hm)] at e
        have hmb : (((s[i]).toNat : Int) != 45) = false := by rw [hm]; rfl
        clear hm hi
        by_cases hi2 : s.size ≤ i + 1
        · rw [if_pos hi2] at e
          have HR := Aside0.mk e.symm
          have HI := Aside0.mk (show ¬ i + 1 < s.size by omega)
          clear e hi2
          go_enter Tryd.func58, Tryd.ntmps58
          go_wp2_with fail
          go_at_call 56; refine (here_some _ b s i e0 hs hi' H.out).mono ?_; rintro e w1 ⟨rfl, ha1, ho1⟩; obtain ⟨⟨g0, g1, g2, g3⟩, q1, q2, q3⟩ := PAt.cells ha1; have HA1 := Aside0.mk (ha1.set1 ((i : Int) + 1)); have HO1 := Aside0.mk (ho1.set 1 (.int .i64 ((i : Int) + 1))); clear ha1 ho1
          go_wp2_with fail
          go_at_call 56; refine (here_end _ b s (i + 1) e0 hs HI.out (by exact HA1.out)).mono ?_; rintro e w2 ⟨rfl, ha2, ho2⟩; have HA2 := Aside0.mk ha2; have HO2 := Aside0.mk (HO1.out.trans ho2); clear ha2 ho2
          go_wp2_with (go_at_call 75; refine (dig_maxU _ b s 0 (.no 3) hs (by omega) (.inr ⟨3, ⟨s, _, e0, HA2.out⟩, rfl⟩)).mono ?_; rintro e w3 ⟨⟨v, hv, rfl, hvr⟩, ha3, ho3⟩; have HA3 := Aside0.mk ha3; have HO3 := Aside0.mk ho3; clear hv hvr ha3 ho3)
          go_ret
          exact ⟨⟨_, rfl, fun a j he => by rw [HR.out] at he; cases he⟩, by rw [HR.out]; exact HA3.out, HO2.out.trans HO3.out⟩
        · rw [if_neg hi2, bt_nat s (i + 1) (by omega)] at e
          have hi2' : i + 1 < s.size := by omega
          have hr2 := (s[i + 1]).toNat_lt
          by_cases h48 : ((s[i + 1]).toNat : Int) = 48
          · rw [if_pos h48] at e
            have HR := Aside0.mk e.symm
            have h48b : (((s[i + 1]).toNat : Int) == 48) = true := beq_iff_eq.mpr h48
            clear e hi2 h48
            go_enter Tryd.func58, Tryd.ntmps58
            go_wp2_with fail
            go_at_call 56; refine (here_some _ b s i e0 hs hi' H.out).mono ?_; rintro e w1 ⟨rfl, ha1, ho1⟩; obtain ⟨⟨g0, g1, g2, g3⟩, q1, q2, q3⟩ := PAt.cells ha1; have HA1 := Aside0.mk (ha1.set1 ((i : Int) + 1)); have HO1 := Aside0.mk (ho1.set 1 (.int .i64 ((i : Int) + 1))); clear ha1 ho1
            go_wp2_with fail
            go_at_call 56; refine (here_some _ b s (i + 1) e0 hs hi2' (by exact HA1.out)).mono ?_; rintro e w2 ⟨rfl, ha2, ho2⟩; have HA2 := Aside0.mk ha2; have HO2 := Aside0.mk (HO1.out.trans ho2); clear ha2 ho2
            go_wp2_with (go_at_call 62; refine (bad_any _ b s _ _ _ HA2.out).mono ?_; rintro e w3 ⟨rfl, ha3, ho3⟩; have HA3 := Aside0.mk ha3; have HO3 := Aside0.mk ho3; clear ha3 ho3)
            go_ret
            exact ⟨⟨_, rfl, fun a j he => by rw [HR.out] at he; cases he⟩, by rw [HR.out]; exact pno 1 HA3.out, HO2.out.trans HO3.out⟩
          · rw [if_neg h48] at e
            have HR := Aside0.mk e.symm
            have h48b : (((s[i + 1]).toNat : Int) == 48) = false := beq_eq_false_iff_ne.mpr h48
            clear e hi2 h48
            go_enter Tryd.func58, Tryd.ntmps58
            go_wp2_with fail
            go_at_call 56; refine (here_some _ b s i e0 hs hi' H.out).mono ?_; rintro e w1 ⟨rfl, ha1, ho1⟩; obtain ⟨⟨g0, g1, g2, g3⟩, q1, q2, q3⟩ := PAt.cells ha1; have HA1 := Aside0.mk (ha1.set1 ((i : Int) + 1)); have HO1 := Aside0.mk (ho1.set 1 (.int .i64 ((i : Int) + 1))); clear ha1 ho1
            go_wp2_with fail
            go_at_call 56; refine (here_some _ b s (i + 1) e0 hs hi2' (by exact HA1.out)).mono ?_; rintro e w2 ⟨rfl, ha2, ho2⟩; have HA2 := Aside0.mk ha2; have HO2 := Aside0.mk (HO1.out.trans ho2); clear ha2 ho2
            go_wp2_with (go_at_call 75; refine (dig_maxU _ b s (i + 1) (digR s maxU (s.size - (i + 1)) 0 true (i + 1)) hs (by omega) (.inl ⟨⟨e0, HA2.out⟩, rfl⟩)).mono ?_; rintro e w3 ⟨⟨v, hv, rfl, hvr⟩, ha3, ho3⟩; have HV := Aside0.mk hv; have HVR := Aside0.mk hvr; have HA3 := Aside0.mk ha3; have HO3 := Aside0.mk ho3; clear hv hvr ha3 ho3)
            go_ret
            refine ⟨⟨_, rfl, fun a j he => ?_⟩, by rw [HR.out]; exact pleaves_map _ HA3.out, HO2.out.trans HO3.out⟩
            rw [HR.out] at he
            obtain ⟨x, hx, rfl⟩ := map_ok he
            rw [← HVR.out x j hx]
            exact wrap_negu v HV.out
      · rw [if_pos (by simpa using hm)] at e
        have HR := Aside0.mk e.symm
        have hmb : (((s[i]).toNat : Int) != 45) = true := bne_iff_ne.mpr hm
        clear hm hi e
        go_enter Tryd.func58, Tryd.ntmps58
        go_wp2_with fail
        go_at_call 56; refine (here_some _ b s i e0 hs hi' H.out).mono ?_; rintro e w1 ⟨rfl, ha1, ho1⟩; have HA1 := Aside0.mk ha1; have HO1 := Aside0.mk ho1; clear ha1 ho1
        go_wp2_with (go_at_call 75; refine (dig_maxI _ b s i (digR s maxI (s.size - i) 0 true i) hs (by omega) (.inl ⟨⟨e0, HA1.out⟩, rfl⟩)).mono ?_; rintro e w3 ⟨⟨v, hv, rfl, hvr⟩, ha3, ho3⟩; have HV := Aside0.mk hv; have HVR := Aside0.mk hvr; have HA3 := Aside0.mk ha3; have HO3 := Aside0.mk ho3; clear hv hvr ha3 ho3)
        go_ret
        refine ⟨⟨_, rfl, fun a j he => ?_⟩, by rw [HR.out]; exact pleaves_map _ HA3.out, HO1.out.trans HO3.out⟩
        rw [HR.out] at he
        obtain ⟨x, hx, rfl⟩ := map_ok he
        rw [← HVR.out x j hx]
        exact wrap_maxI v HV.out
  · have H := Aside0.mk h
    have HR := Aside0.mk e
    clear h e
    go_enter Tryd.func58, Tryd.ntmps58
    go_wp2_with (first | (go_at_call 56; refine (here_bad _ b s' i' e0 k H.out).mono ?_; rintro e w1 ⟨rfl, ha1, ho1⟩; have HA1 := Aside0.mk ha1; have HO1 := Aside0.mk ho1; clear ha1 ho1) | (go_at_call 75; refine (dig_maxI _ b s 0 (.no k) hs (by omega) (.inr ⟨k, ⟨_, _, _, HA1.out⟩, rfl⟩)).mono ?_; rintro e w2 ⟨⟨v, hv, rfl, hvr⟩, ha2, ho2⟩; have HA2 := Aside0.mk ha2; have HO2 := Aside0.mk ho2; clear hv hvr ha2 ho2))
    go_ret
    exact ⟨⟨_, rfl, fun a j he => by rw [HR.out] at he; cases he⟩, by rw [HR.out]; exact HA2.out, HO1.out.trans HO2.out⟩
end Go.Proofs.YtbdfjiobegadjaaDoor.Pl
