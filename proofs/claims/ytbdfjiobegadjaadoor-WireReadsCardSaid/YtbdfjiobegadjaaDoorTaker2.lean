/- The walks of wire's taker: these bytes, a number, a line. -/
import Derived.Test.YtbdfjiobegadjaaDoorTaker
import Derived.Deep.RegionWith
namespace Go.Proofs.YtbdfjiobegadjaaDoor.Tk
open Go Go.RowKit Go.Proofs.YtbdfjiobegadjaaDoor.PWireMemory Go.Proofs.YtbdfjiobegadjaaDoorW.PrintWords Go.Proofs.YtbdfjiobegadjaaDoorW.PrintLast Go.Proofs.YtbdfjiobegadjaaDoorW.PrintMore
set_option linter.unusedVariables false
set_option linter.unusedSectionVars false
set_option linter.unusedSimpArgs false
/-- These bytes must stand at i. -/
def expect (s : ByteArray) : List UInt8 → Nat → Res Unit
  | [], i => .ok () i
  | c :: l, i => if h : i < s.size then if s[i] = c then expect s l (i + 1) else .no 1 else .no 3
/-- How far 'these' has come. -/
inductive Upto (b : Nat) (s m : ByteArray) (ad : Nat → Addr) (i : Nat) (R : Res Unit) (j : Nat) (W : World) : Prop
  | good (h : Good W b s (i + j)) (e : expect s (m.data.toList.drop j) (i + j) = R) : Upto b s m ad i R j W
  | bad (k : Nat) (h : Bad W b ad k) (e : R = .no k) : Upto b s m ad i R j W
theorem expect_drop (s m : ByteArray) (i j : Nat) (hj : j < m.size) : expect s (m.data.toList.drop j) (i + j) = if h : i + j < s.size then if s[i + j] = m[j] then expect s (m.data.toList.drop (j + 1)) (i + (j + 1)) else .no 1 else .no 3 := by
  have hl : j < m.data.toList.length := by simpa using hj
  rw [List.drop_eq_getElem_cons hl, expect]
  rfl
structure TheseOk (b : Nat) (s : ByteArray) (ad : Nat → Addr) (R : Res Unit) (W : World) (e : Ending) (W' : World) : Prop where
  end_ : e = .returned (.tuple #[])
  at_ : Leaves W' b s ad R
  only : Only b W W'
theorem Upto.done {b : Nat} {s m : ByteArray} {ad : Nat → Addr} {i : Nat} {R : Res Unit} {W : World} (h : Upto b s m ad i R m.size W) : Leaves W b s ad R := by
  cases h with
  | good h e =>
    rw [List.drop_eq_nil_of_le (by simp), expect] at e
    subst e
    exact h
  | bad k h e => subst e; exact h
theorem u8_ne {a c : UInt8} (h : ¬ a = c) : ((a.toNat : Int) != (c.toNat : Int)) = true := by
  rw [bne_iff_ne]; intro e; exact h (UInt8.toNat_inj.1 (by omega))
theorem u8_eq {a c : UInt8} (h : a = c) : ((a.toNat : Int) != (c.toNat : Int)) = false := by
  subst h; simp
theorem Only.from_drew {b : Nat} {a c : World} (h : Only b a.drew c) : Only b a c := ⟨h.os, h.tape, h.output, h.size, h.keep⟩
set_option maxHeartbeats 1000000 in
theorem these_any (W : World) (N b : Nat) (s m : ByteArray) (ad : Nat → Addr) (i : Nat) (R : Res Unit) (hm : m.size ≤ 1000) (hN : N ≤ b) (hE : EN N W ad) (h : Upto b s m ad i R 0 W) :
    Calls Tryd.prog 73 #[.pointer (some ⟨b, 0, none⟩), .string m] W (TheseOk b s ad R W) := by
  have hbl : b < W.heap.size := by cases h with | good h e => exact blk_lt h | bad k h e => obtain ⟨r, h⟩ := h; exact blk_lt h
  have HE := Aside0.mk hE
  have HU := Aside0.mk h
  clear hE h
  go_enter Tryd.func73, Tryd.ntmps73
  go_wp2_with fail
  go_loopw [4, 7] (fun _ v W' => ∃ j : Nat, j ≤ m.size ∧ v = .int .i64 j ∧ Aside0 (Upto b s m ad i R j W') ∧ Aside0 (Only b W W')) (fun _ v _ => m.size - (intOf v).toNat)
  case atStart => exact ⟨0, Nat.zero_le _, rfl, HU, ⟨Only.refl _ _⟩⟩
  case round =>
    clear HU
    obtain ⟨j, hj, rfl, HU, HO⟩ := hrel
    have hE1 := (HE.out.only HO.out hN (Nat.le_of_lt hbl)).errs.cell 1 (by omega)
    have hE3 := (HE.out.only HO.out hN (Nat.le_of_lt hbl)).errs.cell 3 (by omega)
    by_cases hlt : j < m.size
    · have hU := HU.out
      cases hU with
      | good h e =>
        rw [expect_drop s m i j hlt] at e
        by_cases hi : i + j < s.size
        · rw [dif_pos hi] at e
          by_cases hc : s[i + j] = m[j]
          · rw [if_pos hc] at e
            have HR := Aside0.mk e
            have hc1 := u8_eq hc
            have H := Aside0.mk h
            clear e h hc hE1 hE3
            go_wp2_with fail
            go_region_with (go_at_call 50; refine (byte_some _ b s (i + j) hi (by exact H.out)).mono ?_; rintro e w1 ⟨rfl, ha, ho⟩; have HA := Aside0.mk ha; have HO1 := Aside0.mk (Only.from_drew ho); clear ha ho)
            all_goals
              go_wp2
              go_roundw
              case rel => exact ⟨j + 1, hlt, by go_num, ⟨.good (by have := HA.out; rw [show i + j + 1 = i + (j + 1) from by omega] at this; exact this) HR.out⟩, ⟨HO.out.trans HO1.out⟩⟩
              case measure => simp [intOf]; omega
          · rw [if_neg hc] at e
            have HR := Aside0.mk e
            have hc1 := u8_ne hc
            have H := Aside0.mk h
            clear e h hc
            have HE1 := Aside0.mk hE1
            clear hE1 hE3
            go_wp2_with fail
            go_region_with (go_at_call 50; refine (byte_some _ b s (i + j) hi (by exact H.out)).mono ?_; rintro e w1 ⟨rfl, ha, ho⟩; have HA := Aside0.mk ha; have HO1 := Aside0.mk (Only.from_drew ho); clear ha ho)
            all_goals
              go_wp2_with (go_at_call 55; refine (wrong_good _ b _ HA.out ad ((HE.out.only (HO.out.trans HO1.out) hN (Nat.le_of_lt hbl)).errs.cell 1 (by omega))).mono ?_; rintro e w2 ⟨rfl, ha2, ho2⟩; have HA2 := Aside0.mk ha2; have HO2 := Aside0.mk ho2; clear ha2 ho2)
              go_roundw
              case rel => exact ⟨j + 1, hlt, by go_num, ⟨.bad 1 ⟨_, HA2.out⟩ HR.out.symm⟩, ⟨(HO.out.trans HO1.out).trans HO2.out⟩⟩
              case measure => simp [intOf]; omega
        · rw [dif_neg hi] at e
          have HR := Aside0.mk e
          have H := Aside0.mk h
          have HE3 := Aside0.mk hE3
          have HHI := Aside0.mk hi
          clear e h hE1 hE3 hi
          by_cases hz : ((m[j]).toNat : Int) = 0
          · have hc1 : ((0 : Int) != ((m[j]).toNat : Int)) = false := by rw [hz]; rfl
            clear hz
            go_wp2_with fail
            go_region_with (go_at_call 50; refine (byte_end _ b s (i + j) HHI.out (by exact H.out) ad (by exact HE3.out)).mono ?_; rintro e w1 ⟨rfl, ha, ho⟩; have HA := Aside0.mk ha; have HO1 := Aside0.mk (Only.from_drew ho); clear ha ho)
            all_goals
              go_wp2
              go_roundw
              case rel => exact ⟨j + 1, hlt, by go_num, ⟨.bad 3 ⟨_, HA.out⟩ HR.out.symm⟩, ⟨HO.out.trans HO1.out⟩⟩
              case measure => simp [intOf]; omega
          · have hc1 : ((0 : Int) != ((m[j]).toNat : Int)) = true := by rw [bne_iff_ne]; exact fun e => hz e.symm
            clear hz
            go_wp2_with fail
            go_region_with (go_at_call 50; refine (byte_end _ b s (i + j) HHI.out (by exact H.out) ad (by exact HE3.out)).mono ?_; rintro e w1 ⟨rfl, ha, ho⟩; have HA := Aside0.mk ha; have HO1 := Aside0.mk (Only.from_drew ho); clear ha ho)
            all_goals
              go_wp2_with (go_at_call 55; refine (wrong_bad _ b _ ad 3 HA.out).mono ?_; rintro e w2 ⟨rfl, ha2, ho2⟩; have HA2 := Aside0.mk ha2; have HO2 := Aside0.mk ho2; clear ha2 ho2)
              go_roundw
              case rel => exact ⟨j + 1, hlt, by go_num, ⟨.bad 3 ⟨_, HA2.out⟩ HR.out.symm⟩, ⟨(HO.out.trans HO1.out).trans HO2.out⟩⟩
              case measure => simp [intOf]; omega
      | bad k h e =>
        obtain ⟨r, h⟩ := h
        have HR := Aside0.mk e
        have H := Aside0.mk h
        clear e h hE1 hE3
        by_cases hz : ((m[j]).toNat : Int) = 0
        · have hc1 : ((0 : Int) != ((m[j]).toNat : Int)) = false := by rw [hz]; rfl
          clear hz
          go_wp2_with fail
          go_region_with (go_at_call 50; refine (byte_bad _ b r ad k (by exact H.out)).mono ?_; rintro e w1 ⟨rfl, ha, ho⟩; have HA := Aside0.mk ha; have HO1 := Aside0.mk (Only.from_drew ho); clear ha ho)
          all_goals
            go_wp2
            go_roundw
            case rel => exact ⟨j + 1, hlt, by go_num, ⟨.bad k ⟨_, HA.out⟩ HR.out⟩, ⟨HO.out.trans HO1.out⟩⟩
            case measure => simp [intOf]; omega
        · have hc1 : ((0 : Int) != ((m[j]).toNat : Int)) = true := by rw [bne_iff_ne]; exact fun e => hz e.symm
          clear hz
          go_wp2_with fail
          go_region_with (go_at_call 50; refine (byte_bad _ b r ad k (by exact H.out)).mono ?_; rintro e w1 ⟨rfl, ha, ho⟩; have HA := Aside0.mk ha; have HO1 := Aside0.mk (Only.from_drew ho); clear ha ho)
          all_goals
            go_wp2_with (go_at_call 55; refine (wrong_bad _ b _ ad k HA.out).mono ?_; rintro e w2 ⟨rfl, ha2, ho2⟩; have HA2 := Aside0.mk ha2; have HO2 := Aside0.mk ho2; clear ha2 ho2)
            go_roundw
            case rel => exact ⟨j + 1, hlt, by go_num, ⟨.bad k ⟨_, HA2.out⟩ HR.out⟩, ⟨(HO.out.trans HO1.out).trans HO2.out⟩⟩
            case measure => simp [intOf]; omega
    · obtain rfl : j = m.size := by omega
      go_wp2_with fail
      go_end0
      exact ⟨rfl, HU.out.done, HO.out⟩
end Go.Proofs.YtbdfjiobegadjaaDoor.Tk
