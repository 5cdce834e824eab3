/- The walk of the law: the text of a list that begins with another one begins with that one's text, and just then. -/
import Derived.Test.YthlolfncdjaniaaDoorTwins
import Derived.Test.YthlolfncdjaniaaDoorUp
namespace Go.Proofs.YthlolfncdjaniaaDoor.Tu
open Go Go.RowKit Go.Proofs.YthlolfncdjaniaaDoor.Ab Go.Proofs.YthlolfncdjaniaaDoor.PTuplePrefix Go.Proofs.YthlolfncdjaniaaDoorW.PrintWords Go.Proofs.YthlolfncdjaniaaDoorW.PrintLast Go.Proofs.YthlolfncdjaniaaDoorW.PrintMore
set_option linter.unusedVariables false
set_option linter.unusedSectionVars false
set_option linter.unusedSimpArgs false
theorem packS_app (a b : List S46) : packS (a ++ b) = packS a ++ packS b := by
  apply ByteArray.ext
  apply Array.toList_inj.1
  show (packS (a ++ b)).data.toList = (packS a ++ packS b).data.toList
  rw [ByteArray.data_append, Array.toList_append, packS_data, packS_data, packS_data, encL_app]
theorem less_irrefl : ∀ l : List UInt8, Op.bytesLess l l = false
  | [] => rfl
  | a :: l => by simp [Op.bytesLess, less_irrefl l]
theorem less_asymm : ∀ {a b : List UInt8}, Op.bytesLess a b = true → Op.bytesLess b a = false
  | [], [], h => by cases h
  | [], _ :: _, _ => rfl
  | _ :: _, [], h => by simp [Op.bytesLess] at h
  | x :: a, y :: b, h => by
    simp only [Op.bytesLess, Bool.or_eq_true, Bool.and_eq_true, decide_eq_true_eq, beq_iff_eq] at h
    rcases h with h | ⟨rfl, h⟩
    · have h1 := ult_ne h
      have h2 : (y == x) = false := by
        rw [beq_eq_false_iff_ne]
        rintro rfl
        exact h1 h
      simp [Op.bytesLess, h1, h2]
    · simp [Op.bytesLess, less_asymm h]
theorem less_ne {a b : List UInt8} (h : Op.bytesLess a b = true) : (b == a) = false := by
  rw [beq_eq_false_iff_ne]
  rintro rfl
  rw [less_irrefl] at h
  cases h
/-- Does b begin with a? As the law says it. -/
noncomputable def headB (a b : List S46) : Bool := decide (a.length ≤ b.length) && eqL a (b.take a.length)
theorem headB_true {a b : List S46} : headB a b = true ↔ ∃ c, b = a ++ c := by
  unfold headB
  rw [Bool.and_eq_true, decide_eq_true_eq, eqL_true]
  constructor
  · rintro ⟨h1, h2⟩
    refine ⟨b.drop a.length, ?_⟩
    conv => lhs; rw [← List.take_append_drop a.length b, ← h2]
  · rintro ⟨c, rfl⟩
    exact ⟨by simp, by simp⟩
theorem beg_head {a b : List S46} (ha : OkL a) (hb : OkL b) : begB (packS b) (packS a) = headB a b := by
  rw [begB_eq, Bool.eq_iff_iff, List.isPrefixOf_iff_prefix, headB_true, Lib.toList_data, Lib.toList_data, packS_data, packS_data]
  constructor
  · rintro ⟨r, hr⟩
    obtain ⟨c, h1, _⟩ := pre_of 4 a b r ha.ok hb.ok hr
    exact ⟨c, h1⟩
  · rintro ⟨c, rfl⟩
    exact ⟨encL 4 c, by rw [encL_app]⟩
theorem kind_ne {d : Nat} {x : S46} (h : Ok46 d x) : ∃ k r, encI d x = k :: r ∧ k ≠ 255 := by
  cases d <;> cases h <;> exact ⟨_, _, rfl, by dsimp only; decide⟩
/-- Where nothing is above a list's text the list is empty. -/
theorem up_none {a : List S46} (ha : OkL a) (h : (ab (packS a) (packS a).size).2 = false) : a = [] := by
  cases a with
  | nil => rfl
  | cons x a =>
    exfalso
    obtain ⟨k, r, e, hk⟩ := kind_ne (ha.ok x (by simp))
    have hd : (packS (x :: a)).data.toList = k :: (r ++ encL 4 a) := by
      rw [packS_data]
      show encI 4 x ++ encL 4 a = _
      rw [e]; rfl
    have hs : 0 < (packS (x :: a)).size := by rw [← slen, hd]; simp
    have h0 := (ab_no _ _ (Nat.le_refl _) h).2 0 hs
    have h1 := (bt_255 _ 0 hs).1 h0
    apply hk
    rw [← h1]
    simp [hd]
theorem okL_app {a b : List S46} (ha : OkL a) (hb : OkL b) (la : a.length ≤ 4) (lb : b.length ≤ 4) (sa : (encL 4 a).length ≤ 32640) (sb : (encL 4 b).length ≤ 32640) : OkL (a ++ b) :=
  ⟨fun y hy => by rcases List.mem_append.1 hy with h | h; exact ha.ok y h; exact hb.ok y h, by rw [List.length_append]; omega, by rw [encL_app, List.length_append]; omega⟩
set_option maxHeartbeats 1000000 in
set_option maxRecDepth 100000 in
theorem walk_prefix (l m : List S46) (A B : Option Addr) (c e : Nat) (W : World) (hA : k46.C W A l.length l) (hB : k46.C W B m.length m) (hl : ∀ y, y ∈ l → Fit46 y) (hm : ∀ y, y ∈ m → Fit46 y) :
    Calls Tryd.prog 4 #[.agg #[.slice A l.length c, .slice B m.length e]] W fun e' w' => e' = .returned (.bool true) ∧ Below W.heap.size W w' := by
  have HA := Aside0.mk hA
  have HB := Aside0.mk hB
  obtain ⟨ha, sa⟩ := tidy_okL l hl
  obtain ⟨hb, sb⟩ := tidy_okL m hm
  have la := tidyL_len 4 l
  have lb := tidyL_len 4 m
  have HOA := Lib.hid ha
  have HOB := Lib.hid hb
  have HAB := Lib.hid (okL_app ha hb la lb sa sb)
  clear hA hB ha hb hl hm sa sb
  have hX0 : (W.alloc (.cells #[.slice A l.length c, .slice B m.length e] 33)).heap[W.heap.size]? = some (.cells #[.slice A l.length c, .slice B m.length e] 33 (0, 0)) := (MapKept.heap_alloc W _).1
  have x0 : (W.alloc (.cells #[.slice A l.length c, .slice B m.length e] 33)).cell? ⟨W.heap.size, 0, none⟩ = some (.slice A l.length c) := blk_cell hX0 0
  have HB0 := Aside0.mk (below_alloc (Below.refl W.heap.size W) (.cells #[.slice A l.length c, .slice B m.length e] 33))
  have HX0 := Aside0.mk hX0
  clear hX0
  go_enter Tryd.func4, Tryd.ntmps4
  go_wp2_with fail
  go_at_call 13
  refine (tidy_any 4 0 rfl l _ A c (by exact (Kd.C_below HA.out HB0.out))).mono ?_
  rintro _ w2 ⟨v2, rfl, hr2, hb2⟩
  obtain ⟨A2, c2, rfl⟩ := Kd.R_slice hr2
  have HB2 := Aside0.mk (HB0.out.trans (hb2.mono HB0.out.size))
  have hX2 := (hb2.block _ (blk_lt HX0.out)).trans HX0.out
  have x1 : w2.cell? ⟨W.heap.size, 1, none⟩ = some (.slice B m.length e) := blk_cell hX2 1
  have HR2 := Aside0.mk (Kd.R_lower hr2 HB0.out.size)
  clear hb2 hX2 hr2 x0
  go_wp2_with fail
  go_at_call 13
  refine (tidy_any 4 0 rfl m w2 B e (Kd.C_below HB.out HB2.out)).mono ?_
  rintro _ w3 ⟨v3, rfl, hr3, hb3⟩
  obtain ⟨A3, c3, rfl⟩ := Kd.R_slice hr3
  have HR3 := Aside0.mk (Kd.R_mono (Kd.R_bound (Kd.R_lower hr3 HB2.out.size)) (ok' := fun k => k < w3.heap.size) (fun k hk => hk.2.2.1))
  have HR2 := Aside0.mk (Kd.R_mono (Kd.R_bound (Kd.R_below HR2.out hb3)) (ok' := fun k => k < w3.heap.size) (fun k hk => hk.2.2.1))
  have HB3 := Aside0.mk (HB2.out.trans (hb3.mono HB2.out.size))
  have hs3 := HB3.out.size
  clear hb3 hr3 x1
  generalize tidyL 4 l = p at HOA HAB HR2 la ⊢
  generalize tidyL 4 m = q at HOB HAB HR3 lb ⊢
  go_wp2_with fail
  go_at_call 14
  refine (twins_any 4 p HOA.out.ok (by omega) w3 A2 c2 (Kd.R_reads' HR2.out).2.2).mono ?_
  rintro _ w4 ⟨v4, rfl, hr4, hb4⟩
  obtain ⟨A4, c4, rfl⟩ := Kd.R_slice hr4
  have HOW := Lib.hid (fun k (h : (Value.slice A4 p.length c4).ownBlock = some k) => own_base (Kd.R_own hr4).choose_spec k h)
  have HR4 := Aside0.mk (Kd.R_lower hr4 hs3)
  have HR2 := Aside0.mk (Kd.R_below HR2.out hb4)
  have HR3 := Aside0.mk (Kd.R_below HR3.out hb4)
  have HB4 := Aside0.mk (HB3.out.trans (hb4.mono hs3))
  have hs4 := HB4.out.size
  obtain ⟨A3', c3', e3, hc3, hrow⟩ := OwnRow.reads HR3.out.2
  simp only [Value.slice.injEq] at e3
  obtain ⟨rfl, -, rfl⟩ := e3
  have HRW := Aside0.mk hrow
  clear hr4 hb4 hrow
  go_wp2_with ((with_reducible refine gate_builtin (b := .append) (xs := #[.tmp 24, .tmp 25]) rfl ?_); at_builtin; refine Kd.R_append_rows k46 (w0 := W) W.heap.size rfl (.tmp 24) (.tmp 25) 22 46 (.agg #[.int .i64 0, .int .i64 0, .string ⟨#[]⟩, .slice none 0 0]) 56 rfl Tryd.underlying22 info46 rfl (by decide) (by omega) (.slice A4 p.length c4) p q A3 q.length c3 (fun _ => True) (fun k => k < w3.heap.size) rfl rfl HR4.out HRW.out (fun x cs hp => k46.M_mono (fun k hk => hk.1) hp) (fun k hk => ⟨trivial, fun e => by have := HOW.out k e.symm; omega⟩) (fun _ _ => trivial) HB4.out hs4 (by omega) ?_; intro v5 w5 ho5 hb5 hg5 hat5; have HO5 := Aside0.mk ho5; have HB5 := Aside0.mk hb5; have HG5 := Aside0.mk hg5; clear ho5 hb5 hg5 hat5)
  obtain ⟨A5, c5, rfl⟩ := Kd.R_slice HO5.out
  have HC5 := Aside0.mk (Kd.R_reads' HO5.out).2.2
  have HC2 := Aside0.mk (Kd.R_reads' (Kd.R_grown HR2.out HG5.out (fun k hk e => by have := HOW.out k e.symm; omega))).2.2
  have HC3 := Aside0.mk (Kd.R_reads' (Kd.R_grown HR3.out HG5.out (fun k hk e => by have := HOW.out k e.symm; omega))).2.2
  clear HR2 HR3 HR4 HRW HO5 HG5 HOW
  go_wp2_with fail
  go_at_call 15
  refine (pack_any p HOA.out w5 A2 c2 HC2.out).mono ?_
  rintro _ w6 ⟨rfl, hb6⟩
  have HC2 := Aside0.mk (Kd.C_below HC2.out hb6)
  have HC3 := Aside0.mk (Kd.C_below HC3.out hb6)
  have HC5 := Aside0.mk (Kd.C_below HC5.out hb6)
  have HB6 := Aside0.mk (HB5.out.trans (hb6.mono HB5.out.size))
  clear hb6
  go_wp2_with fail
  go_at_call 15
  refine (pack_any q HOB.out w6 A3 c3 HC3.out).mono ?_
  rintro _ w7 ⟨rfl, hb7⟩
  have HC2 := Aside0.mk (Kd.C_below HC2.out hb7)
  have HC3 := Aside0.mk (Kd.C_below HC3.out hb7)
  have HC5 := Aside0.mk (Kd.C_below HC5.out hb7)
  have HB7 := Aside0.mk (HB6.out.trans (hb7.mono HB6.out.size))
  clear hb7
  go_wp2_with fail
  go_at_call 15
  have hpk := pack_any (p ++ q) HAB.out w7 A5 c5 HC5.out
  rw [List.length_append] at hpk
  refine hpk.mono ?_
  rintro _ w8 ⟨rfl, hb8⟩
  clear hpk
  have HC2 := Aside0.mk (Kd.C_below HC2.out hb8)
  have HC3 := Aside0.mk (Kd.C_below HC3.out hb8)
  have HB8 := Aside0.mk (HB7.out.trans (hb8.mono HB7.out.size))
  clear hb8
  rw [packS_app]
  go_wp2_with fail
  go_at_call 16
  refine (seven_walk w8).mono ?_
  rintro _ w9 ⟨rfl, hb9⟩
  have HC2 := Aside0.mk (Kd.C_below HC2.out hb9)
  have HC3 := Aside0.mk (Kd.C_below HC3.out hb9)
  have HB9 := Aside0.mk (HB8.out.trans (hb9.mono HB8.out.size))
  have hsp := packS_size HOA.out
  have hsq := packS_size HOB.out
  have hbg := Lib.hid (beg_head HOA.out HOB.out)
  have hnone := Lib.hid (up_none HOA.out)
  have hbu := Lib.hid (show begB (packS p ++ packS q) (packS p) = true by rw [← packS_app, beg_head HOA.out HAB.out, headB_true]; exact ⟨q, rfl⟩)
  clear hb9
  have hu : ((packS p ++ packS q).toList != (packS p ++ packS q).toList) = false := by simp
  have hca : ¬ (9223372036854775807 : Int) < (((packS p).size : Int) + ((packS q).size : Int)) := by omega
  by_cases hle : p.length ≤ q.length
  · have hle' : (p.length : Int) ≤ (q.length : Int) := by omega
    have hmin : min (p.length : Int) (q.length : Int) = (p.length : Int) := by omega
    have hT := Aside0.mk (Kd.C_take (m := p.length) HC3.out hle)
    have hhd := Lib.hid (show headB p q = eqL p (q.take p.length) by unfold headB; rw [decide_eq_true hle]; rfl)
    go_wp2_with fail
    go_at_call 11
    have hsm := same_any p (q.take p.length) w9 A2 A3 c2 c3 HC2.out hT.out
    rw [show (q.take p.length).length = p.length by rw [List.length_take]; omega] at hsm
    refine hsm.mono ?_
    rintro _ w10 ⟨rfl, hb10⟩
    have HBX := Aside0.mk (HB9.out.trans (hb10.mono HB9.out.size))
    rw [← hhd.out]
    obtain ⟨v, hv⟩ : ∃ v, headB p q = v := ⟨_, rfl⟩
    have hbv := Lib.hid (hbg.out.trans hv)
    rw [hv]
    clear hb10 hsm hv
    cases hab : (ab (packS p) (packS p).size).2 with
    | false =>
      have hp := hnone.out hab
      have hz : (packS p).toList.isEmpty = true := by rw [hp, Lib.toList_data, packS_data]; rfl
      have HAB2 := Lib.hid hab
      clear hab hp
      cases v
      all_goals
        go_wp2_with fail
        go_at_call 17
        refine (begins_any (packS q) (packS p) _ (by omega) (by omega)).mono ?_
        rintro _ wb ⟨rfl, rfl⟩
        rw [hbv.out]
        go_wp2_with fail
        go_at_call 18
        refine (above_no (packS p) _ (by omega) HAB2.out).mono ?_
        rintro _ wc ⟨rfl, hbc⟩
        have HBC := Aside0.mk (HBX.out.trans (hbc.mono HBX.out.size))
        clear hbc
        go_wp2_with fail
        go_ret
        exact ⟨rfl, HBC.out⟩
    | true =>
      have hyes := up_yes (packS p) (packS q) hab
      have huu := up_yes (packS p) (packS p ++ packS q) hab
      rw [hbu.out] at huu
      rw [hbv.out] at hyes
      obtain ⟨up, hup⟩ : ∃ up, (ab (packS p) (packS p).size).1 = up := ⟨_, rfl⟩
      rw [hup] at hyes huu
      have hu1 : Op.bytesLess (packS p ++ packS q).toList up.toList = true := by
        cases h : Op.bytesLess (packS p ++ packS q).toList up.toList with
        | true => rfl
        | false => rw [h, Bool.and_false] at huu; cases huu
      have hns := less_asymm hu1
      have hne : (up.toList == (packS p ++ packS q).toList) = false := less_ne hu1
      have HAB2 := Lib.hid (show ∀ w : World, Calls Tryd.prog 18 #[.string (packS p)] w fun e w' => e = .returned (.tuple #[.string up, .bool true]) ∧ Below w.heap.size w w' from fun w => hup ▸ above_yes (packS p) w (by omega) hab)
      clear hab huu hup
      cases hx : Op.bytesLess (packS q).toList (packS p).toList with
      | false =>
        cases hy : Op.bytesLess (packS q).toList up.toList with
        | false =>
          rw [hx, hy] at hyes
          obtain rfl : v = false := by rw [hyes]; rfl
          clear hyes
          go_wp2_with fail
          go_at_call 17
          refine (begins_any (packS q) (packS p) _ (by omega) (by omega)).mono ?_
          rintro _ wb ⟨rfl, rfl⟩
          rw [hbv.out]
          go_wp2_with fail
          go_at_call 18
          refine (HAB2.out _).mono ?_
          rintro _ wc ⟨rfl, hbc⟩
          have HBC := Aside0.mk (HBX.out.trans (hbc.mono HBX.out.size))
          clear hbc
          go_wp2_with (go_at_call 17; refine (begins_any (packS q) (packS p) _ (by omega) (by omega)).mono ?_; rintro _ wd ⟨rfl, rfl⟩; rw [hbv.out])
          go_ret
          exact ⟨rfl, HBC.out⟩
        | true =>
          rw [hx, hy] at hyes
          obtain rfl : v = true := by rw [hyes]; rfl
          clear hyes
          go_wp2_with fail
          go_at_call 17
          refine (begins_any (packS q) (packS p) _ (by omega) (by omega)).mono ?_
          rintro _ wb ⟨rfl, rfl⟩
          rw [hbv.out]
          go_wp2_with fail
          go_at_call 18
          refine (HAB2.out _).mono ?_
          rintro _ wc ⟨rfl, hbc⟩
          have HBC := Aside0.mk (HBX.out.trans (hbc.mono HBX.out.size))
          clear hbc
          go_wp2_with (go_at_call 17; refine (begins_any (packS q) (packS p) _ (by omega) (by omega)).mono ?_; rintro _ wd ⟨rfl, rfl⟩; rw [hbv.out])
          go_ret
          exact ⟨rfl, HBC.out⟩
      | true =>
        cases hy : Op.bytesLess (packS q).toList up.toList with
        | false =>
          rw [hx, hy] at hyes
          obtain rfl : v = false := by rw [hyes]; rfl
          clear hyes
          go_wp2_with fail
          go_at_call 17
          refine (begins_any (packS q) (packS p) _ (by omega) (by omega)).mono ?_
          rintro _ wb ⟨rfl, rfl⟩
          rw [hbv.out]
          go_wp2_with fail
          go_at_call 18
          refine (HAB2.out _).mono ?_
          rintro _ wc ⟨rfl, hbc⟩
          have HBC := Aside0.mk (HBX.out.trans (hbc.mono HBX.out.size))
          clear hbc
          go_wp2_with (go_at_call 17; refine (begins_any (packS q) (packS p) _ (by omega) (by omega)).mono ?_; rintro _ wd ⟨rfl, rfl⟩; rw [hbv.out])
          go_ret
          exact ⟨rfl, HBC.out⟩
        | true =>
          rw [hx, hy] at hyes
          obtain rfl : v = false := by rw [hyes]; rfl
          clear hyes
          go_wp2_with fail
          go_at_call 17
          refine (begins_any (packS q) (packS p) _ (by omega) (by omega)).mono ?_
          rintro _ wb ⟨rfl, rfl⟩
          rw [hbv.out]
          go_wp2_with fail
          go_at_call 18
          refine (HAB2.out _).mono ?_
          rintro _ wc ⟨rfl, hbc⟩
          have HBC := Aside0.mk (HBX.out.trans (hbc.mono HBX.out.size))
          clear hbc
          go_wp2_with (go_at_call 17; refine (begins_any (packS q) (packS p) _ (by omega) (by omega)).mono ?_; rintro _ wd ⟨rfl, rfl⟩; rw [hbv.out])
          go_ret
          exact ⟨rfl, HBC.out⟩
  · have hle' : ¬ (p.length : Int) ≤ (q.length : Int) := by omega
    have hhd := Lib.hid (show headB p q = false by unfold headB; rw [decide_eq_false hle]; rfl)
    have HBX := HB9
    obtain ⟨v, hv⟩ : ∃ v, headB p q = v := ⟨_, rfl⟩
    have hvf := Lib.hid (hv.symm.trans hhd.out)
    have hbv := Lib.hid (hbg.out.trans hv)
    clear hv
    cases hab : (ab (packS p) (packS p).size).2 with
    | false =>
      have hp := hnone.out hab
      have hz : (packS p).toList.isEmpty = true := by rw [hp, Lib.toList_data, packS_data]; rfl
      have HAB2 := Lib.hid hab
      clear hab hp
      obtain rfl := hvf.out
      all_goals
        go_wp2_with fail
        go_at_call 17
        refine (begins_any (packS q) (packS p) _ (by omega) (by omega)).mono ?_
        rintro _ wb ⟨rfl, rfl⟩
        rw [hbv.out]
        go_wp2_with fail
        go_at_call 18
        refine (above_no (packS p) _ (by omega) HAB2.out).mono ?_
        rintro _ wc ⟨rfl, hbc⟩
        have HBC := Aside0.mk (HBX.out.trans (hbc.mono HBX.out.size))
        clear hbc
        go_wp2_with fail
        go_ret
        exact ⟨rfl, HBC.out⟩
    | true =>
      have hyes := up_yes (packS p) (packS q) hab
      have huu := up_yes (packS p) (packS p ++ packS q) hab
      rw [hbu.out] at huu
      rw [hbv.out] at hyes
      obtain ⟨up, hup⟩ : ∃ up, (ab (packS p) (packS p).size).1 = up := ⟨_, rfl⟩
      rw [hup] at hyes huu
      have hu1 : Op.bytesLess (packS p ++ packS q).toList up.toList = true := by
        cases h : Op.bytesLess (packS p ++ packS q).toList up.toList with
        | true => rfl
        | false => rw [h, Bool.and_false] at huu; cases huu
      have hns := less_asymm hu1
      have hne : (up.toList == (packS p ++ packS q).toList) = false := less_ne hu1
      have HAB2 := Lib.hid (show ∀ w : World, Calls Tryd.prog 18 #[.string (packS p)] w fun e w' => e = .returned (.tuple #[.string up, .bool true]) ∧ Below w.heap.size w w' from fun w => hup ▸ above_yes (packS p) w (by omega) hab)
      clear hab huu hup
      cases hx : Op.bytesLess (packS q).toList (packS p).toList with
      | false =>
        cases hy : Op.bytesLess (packS q).toList up.toList with
        | false =>
          rw [hx, hy] at hyes
          obtain rfl : v = false := by rw [hyes]; rfl
          clear hyes
          go_wp2_with fail
          go_at_call 17
          refine (begins_any (packS q) (packS p) _ (by omega) (by omega)).mono ?_
          rintro _ wb ⟨rfl, rfl⟩
          rw [hbv.out]
          go_wp2_with fail
          go_at_call 18
          refine (HAB2.out _).mono ?_
          rintro _ wc ⟨rfl, hbc⟩
          have HBC := Aside0.mk (HBX.out.trans (hbc.mono HBX.out.size))
          clear hbc
          go_wp2_with (go_at_call 17; refine (begins_any (packS q) (packS p) _ (by omega) (by omega)).mono ?_; rintro _ wd ⟨rfl, rfl⟩; rw [hbv.out])
          go_ret
          exact ⟨rfl, HBC.out⟩
        | true =>
          rw [hx, hy] at hyes
          exact absurd (hyes.symm.trans hvf.out) (by decide)
      | true =>
        cases hy : Op.bytesLess (packS q).toList up.toList with
        | false =>
          rw [hx, hy] at hyes
          obtain rfl : v = false := by rw [hyes]; rfl
          clear hyes
          go_wp2_with fail
          go_at_call 17
          refine (begins_any (packS q) (packS p) _ (by omega) (by omega)).mono ?_
          rintro _ wb ⟨rfl, rfl⟩
          rw [hbv.out]
          go_wp2_with fail
          go_at_call 18
          refine (HAB2.out _).mono ?_
          rintro _ wc ⟨rfl, hbc⟩
          have HBC := Aside0.mk (HBX.out.trans (hbc.mono HBX.out.size))
          clear hbc
          go_wp2_with (go_at_call 17; refine (begins_any (packS q) (packS p) _ (by omega) (by omega)).mono ?_; rintro _ wd ⟨rfl, rfl⟩; rw [hbv.out])
          go_ret
          exact ⟨rfl, HBC.out⟩
        | true =>
          rw [hx, hy] at hyes
          obtain rfl : v = false := by rw [hyes]; rfl
          clear hyes
          go_wp2_with fail
          go_at_call 17
          refine (begins_any (packS q) (packS p) _ (by omega) (by omega)).mono ?_
          rintro _ wb ⟨rfl, rfl⟩
          rw [hbv.out]
          go_wp2_with fail
          go_at_call 18
          refine (HAB2.out _).mono ?_
          rintro _ wc ⟨rfl, hbc⟩
          have HBC := Aside0.mk (HBX.out.trans (hbc.mono HBX.out.size))
          clear hbc
          go_wp2_with (go_at_call 17; refine (begins_any (packS q) (packS p) _ (by omega) (by omega)).mono ?_; rintro _ wd ⟨rfl, rfl⟩; rw [hbv.out])
          go_ret
          exact ⟨rfl, HBC.out⟩
end Go.Proofs.YthlolfncdjaniaaDoor.Tu
