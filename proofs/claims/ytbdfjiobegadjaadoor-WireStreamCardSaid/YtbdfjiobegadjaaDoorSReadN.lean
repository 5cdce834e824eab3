/- wire's Reader: whatever the state, what the step does; Next walked. -/
import Derived.Test.YtbdfjiobegadjaaDoorSReadV
import Derived.LoopTactic
import Derived.Deep.LoopGhost
namespace Go.Proofs.YtbdfjiobegadjaaDoor.Rd
open Go Go.RowKit Go.Proofs.YtbdfjiobegadjaaDoor.Tk Go.Proofs.YtbdfjiobegadjaaDoor.PWireMemory Go.Proofs.YtbdfjiobegadjaaDoorW.PrintWords Go.Proofs.YtbdfjiobegadjaaDoorW.PrintLast Go.Proofs.YtbdfjiobegadjaaDoorW.PrintMore
set_option linter.unusedVariables false
set_option linter.unusedSectionVars false
set_option linter.unusedSimpArgs false
theorem step_any (N base b : Nat) (dom : Nat → Prop) (ad : Nat → Addr) (W : World) (hx : Cx N base b dom ad W) (wait : ByteArray) (st : St) (hok : st.ok) (c : Int) (hc0 : 0 ≤ c) (hc1 : c ≤ 255) (h : Rep W base dom b wait st) :
    Calls Tryd.prog (fnOf st) #[.pointer (some ⟨b, 0, none⟩), .int .u8 c] W (StepOk base dom b wait ad (stepF st c) W) := by
  obtain ⟨v3, v4, v5, v6, v7, v8, v9, hr, hi⟩ := h
  cases st with
  | start => exact start_any N base b dom ad W hx wait _ _ _ _ _ _ _ c hc0 hc1 hr
  | num t n many => obtain ⟨rfl, rfl, ht⟩ := hi; exact digit_any N base b dom ad W hx wait _ _ _ _ _ t n many c hc0 hc1 hr ht hok
  | numd t n => obtain ⟨rfl, ht⟩ := hi; exact numbered_any N base b dom ad W hx wait _ _ _ _ _ _ t n c hc0 hc1 hr ht
  | dollar left list => obtain ⟨rfl, hl⟩ := hi; exact dollar_any N base b dom ad W hx wait _ _ _ _ _ _ left list c hc0 hc1 hr hl
  | body left need list text => obtain ⟨rfl, rfl, hl, ht⟩ := hi; exact body_any N base b dom ad W hx wait _ _ _ _ _ left need list text c hc0 hc1 hr hl ht hok
  | bodyEnd left list text => obtain ⟨rfl, hl, ht⟩ := hi; exact bodyEnd_any N base b dom ad W hx wait _ _ _ _ _ _ left list text c hc0 hc1 hr hl ht
  | worded left list text => obtain ⟨rfl, hl, ht⟩ := hi; exact worded_any N base b dom ad W hx wait _ _ _ _ _ _ left list text c hc0 hc1 hr hl ht hok
  | line text => exact (line_any N base b dom ad W hx wait _ _ _ _ _ _ _ text c hc0 hc1 hr hi hok.1)
  | lineEnd text => exact lineEnd_any N base b dom ad W hx wait _ _ _ _ _ _ _ text c hc0 hc1 hr hi hok
theorem enters_fn (st : St) : ∀ args w, (callFunc (fnOf st) args).run Tryd.prog w = .ok (.enter (fnOf st) args) w := by
  cases st with
  | start => exact enters_of Tryd.func37 (by kernel_rfl) rfl
  | num t n many => exact enters_of Tryd.func77 (by kernel_rfl) rfl
  | numd t n => exact enters_of Tryd.func84 (by kernel_rfl) rfl
  | dollar left list => exact enters_of Tryd.func78 (by kernel_rfl) rfl
  | body left need list text => exact enters_of Tryd.func93 (by kernel_rfl) rfl
  | bodyEnd left list text => exact enters_of Tryd.func94 (by kernel_rfl) rfl
  | worded left list text => exact enters_of Tryd.func100 (by kernel_rfl) rfl
  | line text => exact enters_of Tryd.func65 (by kernel_rfl) rfl
  | lineEnd text => exact enters_of Tryd.func79 (by kernel_rfl) rfl
/-- What the machine comes to over the bytes from i on. -/
inductive RunR where
  | more (s : St)
  | whole (l : List ByteArray) (i : Nat)
  | bad (k : Nat)
def runF (s : ByteArray) : Nat → Nat → St → RunR
  | 0, _, st => .more st
  | f + 1, i, st => match stepF st (bt s i) with
    | .go st' => runF s f (i + 1) st'
    | .whole l => .whole l (i + 1)
    | .bad k => .bad k
theorem bt_nat (s : ByteArray) (i : Nat) (h : i < s.size) : bt s (i : Int) = ((s[i]).toNat : Int) := (bt_at s i (by simpa using h)).symm
theorem stin_set {W : World} {base b : Nat} {dom : Nat → Prop} {v0 v1 v2 v3 v4 v5 v6 v7 v8 v9 w3 w4 w5 w6 w7 w8 w9 : Value} {t : St} (h : StIn W base dom b w3 w4 w5 w6 w7 w8 w9 t) (hr : RD W b v0 v1 v2 v3 v4 v5 v6 v7 v8 v9) (j : Nat) (v : Value) : StIn (W.setCell ⟨b, j, none⟩ v) base dom b w3 w4 w5 w6 w7 w8 w9 t := by
  cases t with
  | start => trivial
  | num t n many => exact ⟨h.1, h.2.1, thin_set h.2.2 hr j v⟩
  | numd t n => exact ⟨h.1, thin_set h.2 hr j v⟩
  | dollar left list => exact ⟨h.1, Kd.R_set h.2 hr (by decide) j v⟩
  | body left need list text => exact ⟨h.1, h.2.1, Kd.R_set h.2.2.1 hr (by decide) j v, Kd.R_set h.2.2.2 hr (by decide) j v⟩
  | bodyEnd left list text => exact ⟨h.1, Kd.R_set h.2.1 hr (by decide) j v, Kd.R_set h.2.2 hr (by decide) j v⟩
  | worded left list text => exact ⟨h.1, Kd.R_set h.2.1 hr (by decide) j v, Kd.R_set h.2.2 hr (by decide) j v⟩
  | line text => exact Kd.R_set h hr (by decide) j v
  | lineEnd text => exact Kd.R_set h hr (by decide) j v
def RepE (W : World) (b : Nat) (ad : Nat → Addr) (k : Nat) : Prop := ∃ v0 v2 v3 v4 v5 v6 v7 v8 v9, RD W b v0 (ev ad k) v2 v3 v4 v5 v6 v7 v8 v9
def NextEnd (base : Nat) (dom : Nat → Prop) (b : Nat) (s : ByteArray) (ad : Nat → Addr) (e : Ending) (W' : World) : RunR → Prop
  | .more st => e = .returned (.tuple #[.slice none 0 0, .bool false, .nilIface]) ∧ Rep W' base dom b ⟨#[]⟩ st
  | .whole l i => ∃ v, e = .returned (.tuple #[v, .bool true, .nilIface]) ∧ Rep W' base dom b (s.extract i s.size) .start ∧ ListR W' base dom v l
  | .bad k => e = .returned (.tuple #[.slice none 0 0, .bool false, ev ad k]) ∧ RepE W' b ad k
structure NextOk (base : Nat) (dom : Nat → Prop) (b : Nat) (s : ByteArray) (ad : Nat → Addr) (r : RunR) (W : World) (e : Ending) (W' : World) : Prop where
  end_ : NextEnd base dom b s ad e W' r
  only : OnlyD b dom W W'
theorem clone_any (s : ByteArray) (W : World) (hs : s.size ≤ 281474976710656) : Calls Tryd.prog 38 #[.string s] W fun e w' => e = .returned (.string s) ∧ Below W.heap.size W w' := by
  go_enter Tryd.func38, Tryd.ntmps38
  go_wp2_with fail
  go_at_call 66
  refine (Tryd.stringslite_Clone s W hs).mono ?_
  rintro _ w1 ⟨rfl, hb⟩
  go_wp2_with fail
  go_ret
  exact ⟨rfl, hb⟩
set_option maxHeartbeats 2000000 in
set_option maxRecDepth 100000 in
theorem next_any (N base b : Nat) (dom : Nat → Prop) (ad : Nat → Addr) (W : World) (hx : Cx N base b dom ad W) (s : ByteArray) (hs : s.size ≤ 281474976710656) (st : St) (hok : st.ok) (h : Rep W base dom b s st) :
    Calls Tryd.prog 19 #[.pointer (some ⟨b, 0, none⟩)] W (NextOk base dom b s ad (runF s s.size 0 st) W) := by
  have HX := Aside0.mk hx
  have HRep := Aside0.mk h
  have hmf := mf
  obtain ⟨v3, v4, v5, v6, v7, v8, v9, hr, hi⟩ := h
  obtain ⟨⟨r0, r1, r2, r3, r4, r5, r6, r7, r8, r9⟩, rf⟩ := hr.cells
  clear hx hr hi r2 r3 r4 r5 r6 r7 r8 r9 rf
  generalize hR : runF s s.size 0 st = R
  have HR := Lib.hid hR
  clear hR
  go_enter Tryd.func19, Tryd.ntmps19
  go_wp2_with fail
  go_loopw [23] (fun v23 W' => ∃ (i : Nat) (t : St), v23 = .int .i64 i ∧ i ≤ s.size ∧ Hid (runF s (s.size - i) i t = R) ∧ Hid t.ok ∧ Aside0 (Rep W' base dom b s t) ∧ Aside0 (OnlyD b dom W W')) (fun v23 _ => s.size - (intOf v23).toNat)
  case atStart => exact ⟨0, st, rfl, by omega, HR, hok, HRep, ⟨OnlyD.refl _ _ _⟩⟩
  case round =>
    obtain ⟨i, t, rfl, hi, hR, ht, HRt, HO⟩ := hrel
    obtain ⟨v3, v4, v5, v6, v7, v8, v9, hr, _⟩ := HRt.out
    obtain ⟨⟨r0, r1, r2, r3, r4, r5, r6, r7, r8, r9⟩, rf⟩ := hr.cells
    have hlt := blk_lt hr
    by_cases hlts : i < s.size
    · have hlt' : (i : Int) < (s.size : Int) := by omega
      have hc := (s[i]).toNat_lt
      have hen := enters_fn t
      have hbt := Lib.hid (bt_nat s i hlts)
      have hstep := Lib.hid (show runF s (s.size - i) i t = (match stepF t ((s[i]).toNat : Int) with | .go st' => runF s (s.size - (i + 1)) (i + 1) st' | .whole l => .whole l (i + 1) | .bad k => .bad k) by
        rw [show s.size - i = (s.size - (i + 1)) + 1 by omega, runF, bt_nat s i hlts])
      have hcz : ((s[i]).toNat : Int) ≤ 255 := by omega
      clear hr r3 r4 r5 r6 r7 r8 rf
      cases hk : stepF t ((s[i]).toNat : Int) with
      | go t' =>
        have K1 := Lib.hid hk
        have hrun := Lib.hid (show runF s (s.size - (i + 1)) (i + 1) t' = R by rw [← hR.out, hstep.out, hk])
        have hok' := Lib.hid (stepF_ok ⟨by omega, hcz⟩ ht.out hk)
        clear hk
        go_wp2_with fail
        go_region_law (go_simp; refine (step_any N base b dom ad _ (by exact (HX.out.only HO.out).drew) s t ht.out _ (by omega) (by omega) (by exact HRt.out)).mono ?_; rintro e w1 ⟨q1, q2⟩; have H2 := Aside0.mk (HO.out.trans (OnlyD.from_drew q2)); rw [K1.out] at q1; obtain ⟨rfl, q3⟩ := q1; have H3 := Aside0.mk q3; clear q3; clear q2)
        all_goals
          go_wp2_with fail
          refine ⟨⟨i + 1, t', by go_num, by omega, hrun, hok', H3, H2⟩, by simp [intOf]; omega⟩
      | bad k =>
        have K1 := Lib.hid hk
        have hrun := Lib.hid (show R = .bad k by rw [← hR.out, hstep.out, hk])
        clear hk
        go_wp2_with fail
        go_region_law (go_simp; refine (step_any N base b dom ad _ (by exact (HX.out.only HO.out).drew) s t ht.out _ (by omega) (by omega) (by exact HRt.out)).mono ?_; rintro e w1 ⟨q1, q2⟩; have H2 := Aside0.mk (HO.out.trans (OnlyD.from_drew q2)); rw [K1.out] at q1; obtain ⟨rfl, q3⟩ := q1; obtain ⟨u2, u3, u4, u5, u6, u7, u8, u9, hr3⟩ := q3; have H3 := Aside0.mk hr3; obtain ⟨⟨y0, y1, y2, y3, y4, y5, y6, y7, y8, y9⟩, yf⟩ := hr3.cells; have ylt := blk_lt hr3; clear hr3 y2 y3 y4 y5 y6 y7; clear q2)
        all_goals
          go_wp2_with fail
          go_ret3
          exact ⟨by rw [hrun.out]; exact ⟨rfl, _, _, _, _, _, _, _, _, _, blk_set (blk_set (blk_set (blk_set H3.out 1 _) 0 _) 8 _) 9 _⟩, (((H2.out.set 1 _).set 0 _).set 8 _).set 9 _⟩
      | whole l =>
        have K1 := Lib.hid hk
        have hrun := Lib.hid (show R = .whole l (i + 1) by rw [← hR.out, hstep.out, hk])
        have hle : (i : Int) + 1 ≤ (s.size : Int) := by omega
        have hex := Lib.hid (show (s.extract (i + 1) s.size).size ≤ 281474976710656 by rw [ByteArray.size_extract]; omega)
        clear hk
        go_wp2_with fail
        go_region_law (go_simp; refine (step_any N base b dom ad _ (by exact (HX.out.only HO.out).drew) s t ht.out _ (by omega) (by omega) (by exact HRt.out)).mono ?_; rintro e w1 ⟨q1, q2⟩; have H2 := Aside0.mk (HO.out.trans (OnlyD.from_drew q2)); rw [K1.out] at q1; obtain ⟨rfl, q3⟩ := q1; obtain ⟨u3, u4, u5, u6, u7, u8, u9, hr3, hl3⟩ := q3; have H3 := Aside0.mk hr3; have HL3 := Aside0.mk hl3; obtain ⟨⟨y0, y1, y2, y3, y4, y5, y6, y7, y8, y9⟩, yf⟩ := hr3.cells; have ylt := blk_lt hr3; clear hr3 hl3 y2 y3 y4 y5 y6 y7; clear q2)
        all_goals
          go_wp2_with fail
          go_at_call 38
          refine (clone_any _ w1 hex.out).mono ?_
          rintro _ w2 ⟨rfl, hb⟩
          have H4 := Aside0.mk (show RD w2 b _ _ _ _ _ _ _ _ _ _ from (hb.block _ ylt).trans H3.out)
          have HL4 := Aside0.mk (show ListR w2 base dom u9 l from Kd.R_below HL3.out hb)
          have H5 := Aside0.mk (H2.out.trans (OnlyD.of_below hb))
          obtain ⟨⟨z0, z1, z2, z3, z4, z5, z6, z7, z8, z9⟩, zf⟩ := H4.out.cells
          have zlt := blk_lt H4.out
          clear hb z2 z3 z4 z5 z6 z7
          go_wp2_with fail
          go_ret3
          exact ⟨by rw [hrun.out]; exact ⟨_, rfl, ⟨_, _, _, _, _, _, _, blk_set (blk_set (blk_set H4.out 0 _) 8 _) 9 _, trivial⟩, Kd.R_set (Kd.R_set (Kd.R_set HL4.out H4.out (by decide) 0 _) (blk_set H4.out 0 _) (by decide) 8 _) (blk_set (blk_set H4.out 0 _) 8 _) (by decide) 9 _⟩, ((H5.out.set 0 _).set 8 _).set 9 _⟩
    · have hlt' : ¬ (i : Int) < (s.size : Int) := by omega
      have hrun := Lib.hid (show R = .more t by rw [← hR.out, show s.size - i = 0 by omega, runF])
      have H3 := Aside0.mk hr
      clear hr r1 r2 r3 r4 r5 r6 r7 r8 r9
      go_wp2_with fail
      go_ret3
      obtain ⟨w3, w4, w5, w6, w7, w8, w9, hr, hin⟩ := HRt.out
      exact ⟨by rw [hrun.out]; exact ⟨rfl, w3, w4, w5, w6, w7, w8, w9, blk_set hr 0 _, stin_set hin hr 0 _⟩, HO.out.set 0 _⟩
theorem next_err (b : Nat) (dom : Nat → Prop) (ad : Nat → Addr) (k : Nat) (W : World) (h : RepE W b ad k) :
    Calls Tryd.prog 19 #[.pointer (some ⟨b, 0, none⟩)] W fun e w' => e = .returned (.tuple #[.slice none 0 0, .bool false, ev ad k]) ∧ ∃ n, w' = W.drewN n := by
  obtain ⟨v0, v2, v3, v4, v5, v6, v7, v8, v9, hr⟩ := h
  obtain ⟨⟨r0, r1, r2, r3, r4, r5, r6, r7, r8, r9⟩, rf⟩ := hr.cells
  clear hr r0 r2 r3 r4 r5 r6 r7 r8 r9 rf
  go_enter Tryd.func19, Tryd.ntmps19
  go_wp2_with fail
  go_quiet (fail)
  go_wp2_with fail
  go_ret3
  exact ⟨rfl, _, rfl⟩
end Go.Proofs.YtbdfjiobegadjaaDoor.Rd
