/- The walk of the law: answers, one behind the other, are read one by one as they were. -/
import Derived.Test.YtbdfjiobegadjaaDoorTold
import Derived.Test.YtbdfjiobegadjaaDoorOpens
import Derived.Test.YtbdfjiobegadjaaDoorBackLaw
import Derived.Test.YtbdfjiobegadjaaDoorOnlyWalk
namespace Go.Proofs.YtbdfjiobegadjaaDoor.Wr
open Go Go.RowKit Go.Proofs.YtbdfjiobegadjaaDoor.Op Go.Proofs.YtbdfjiobegadjaaDoor.Tk Go.Proofs.YtbdfjiobegadjaaDoor.PWireMemory Go.Proofs.YtbdfjiobegadjaaDoorW.PrintWords Go.Proofs.YtbdfjiobegadjaaDoorW.PrintLast Go.Proofs.YtbdfjiobegadjaaDoorW.PrintMore
set_option linter.unusedVariables false
set_option linter.unusedSectionVars false
set_option linter.unusedSimpArgs false
abbrev zb : S24 := ⟨3, -5, ⟨#[]⟩, []⟩
abbrev bbox (A : Option Addr) (n c : Nat) (tail : ByteArray) (cut : Int) : Obj := .cells #[.slice A n c, .string tail, .int .i64 cut] 58
theorem fit_zb : Fit24 zb := .mk _ ⟨by decide, by decide⟩ ⟨by decide, by decide⟩ (by decide) (by decide) (fun y hy => by simp at hy)
theorem K_zb (W : World) : k24.K W zb [.int .i64 3, .int .i64 (-5), .string ⟨#[]⟩, .slice none 0 0] := k24_mk W zb (A3 := none) (c3 := 0) (Nat.le_refl _) (Kd.C_nil _ _)
theorem row_zb (W w : World) (base : Nat) (hb : base ≤ w.heap.size) : OwnRow (k24.K W) 24 4 (w.alloc (.cells #[.int .i64 3, .int .i64 (-5), .string ⟨#[]⟩, .slice none 0 0] 24)) base (.slice (some ⟨w.heap.size, 0, none⟩) 1 1) [zb] :=
  OwnRow.lit (R := k24.K W) (size := 4) (ps := [zb]) w base (inner := [.int .i64 3, .int .i64 (-5), .string ⟨#[]⟩, .slice none 0 0]) ⟨rfl, fun j p hj => by
    cases j with
    | zero => simp only [List.getElem?_cons_zero, Option.some.injEq] at hj; subst hj; exact K_zb W
    | succ j => simp at hj⟩ hb (by decide)
theorem C_of_own {W w1 : World} {base : Nat} {v1 : Value} {L : List S24} (ho : OwnRow (k24.K W) 24 4 w1 base v1 L) (hb : Below W.heap.size W w1) : ∃ A c, v1 = .slice A L.length c ∧ L.length ≤ c ∧ k24.C w1 A L.length L := by
  obtain ⟨A, c, e, hl, hr⟩ := OwnRow.reads ho
  exact ⟨A, c, e, hl, hr.imp_ (Below.refl _ _) (fun _ _ hp => k24.K_below hb hp)⟩
set_option maxHeartbeats 2000000 in
set_option maxRecDepth 100000 in
theorem walk_back (L : List S24) (tail : ByteArray) (cut : Int) (A : Option Addr) (c : Nat) (W : World) (ad : Nat → Addr) (hE : Errs W ad) (hT : Tab W.heap.size W) (hC : k24.C W A L.length L)
    (hfit : ∀ x ∈ L, Fit24 x) (hlen : L.length * 56 ≤ 140737488351232) (ht : tail.size ≤ 140737488351232) :
    Calls Tryd.prog 6 #[.agg #[.slice A L.length c, .string tail, .int .i64 cut]] W fun e w' => e = .returned (.bool true) ∧ Below W.heap.size W w' := by
  have HE := Aside0.mk hE
  have HT := Lib.hid hT
  have HF := Lib.hid hfit
  have e1 : (W.alloc (bbox A L.length c tail cut)).heap.size = W.heap.size + 1 := by simp
  have HO := Aside0.mk (row_zb W (W.alloc (bbox A L.length c tail cut)) W.heap.size (by omega))
  have HQ := Aside0.mk (show ReadsRow (k24.K W) 4 ((W.alloc (bbox A L.length c tail cut)).alloc (.cells #[.int .i64 3, .int .i64 (-5), .string ⟨#[]⟩, .slice none 0 0] 24)) A L.length L from
    ReadsRow.imp_ hC (below_alloc (below_alloc (Below.refl _ _) _) _) (fun _ _ hp => hp))
  have HB := Aside0.mk (show Below W.heap.size W ((W.alloc (bbox A L.length c tail cut)).alloc (.cells #[.int .i64 3, .int .i64 (-5), .string ⟨#[]⟩, .slice none 0 0] 24)) from below_alloc (below_alloc (Below.refl _ _) _) _)
  clear hE hT hfit hC
  rw [e1] at HO
  clear e1
  go_enter Tryd.func6, Tryd.ntmps6
  go_wp2_with ((with_reducible refine gate_builtin (b := .append) (xs := #[.tmp 17, .tmp 19]) rfl ?_); at_builtin; refine OwnRow.append_list (R := k24.K W) (w0 := W) W.heap.size rfl (.tmp 17) (.tmp 19) 22 24 (.agg #[.int .i64 0, .int .i64 0, .string ⟨#[]⟩, .slice none 0 0]) 4 56 rfl Tryd.underlying22 info24 rfl (by decide) (.slice (some ⟨W.heap.size + 1, 0, none⟩) 1 1) [zb] L A c rfl rfl (fun p cs hp => k24.K_one hp) HO.out HQ.out HB.out (by simp; omega) (by simp; omega) (by simp; omega) ?_; intro v1 w1 ho1 hb1 hg1; have HO1 := Aside0.mk ho1; have HB1 := Aside0.mk hb1; have HG1 := Aside0.mk hg1; clear ho1 hb1 hg1)
  obtain ⟨A1, c1, rfl, hc1, hC1⟩ := C_of_own HO1.out HB1.out
  have HC1 := Aside0.mk hC1
  have hbx : w1.heap[W.heap.size]? = some (bbox A L.length c tail cut) := by
    refine (HG1.out.block W.heap.size (by simp; omega) (by simp [Value.ownBlock])).trans ?_
    refine ((MapKept.heap_alloc _ _).2 _ (by simp)).trans (MapKept.heap_alloc W _).1
  have HX := Aside0.mk hbx
  have HL1 := Lib.hid (show ([zb] ++ L).length = L.length + 1 by simp)
  have HF1 := Lib.hid (show ∀ x ∈ [zb] ++ L, Fit24 x by
    intro x hx
    rcases List.mem_append.1 hx with h | h
    · rw [List.mem_singleton.1 h]; exact fit_zb
    · exact HF.out x h)
  generalize hL1 : [zb] ++ L = M at hc1 HC1 HL1 HF1
  have hM : M.length ≤ 9223372036854775806 := by have := HL1.out; omega
  clear hL1 HO1 HF HO HQ HB HG1 hbx hC1 hlen HL1
  go_loopw [4, 5] (fun v4 v5 W' => ∃ i : Nat, v4 = .string ⟨(catB (M.take i)).toArray⟩ ∧ v5 = .int .i64 i ∧ i ≤ M.length ∧ (catB (M.take i)).length ≤ 16777216 ∧ Aside0 (Below w1.heap.size w1 W')) (fun _ v5 _ => M.length - (intOf v5).toNat)
  case atStart => exact ⟨0, rfl, rfl, by omega, by simp [catB], ⟨Below.refl _ _⟩⟩
  case round =>
    obtain ⟨i, rfl, rfl, hi, hsz, HBr⟩ := hrel
    by_cases hlt : i < M.length
    · have hlt' : (i : Int) < (M.length : Int) := by omega
      obtain ⟨a, B, e, rfl, a0, a1, a2, a3, ae, aC⟩ := elem_K (Kd.C_below HC1.out HBr.out) i hlt
      have hmem := Lib.hid (rd_mem hlt)
      have hsn := Lib.hid (show catB (M.take (i + 1)) = catB (M.take i) ++ encX (rd_T24 M (i : Int)) by rw [rd_at M i hlt]; exact catB_snoc M i hlt)
      generalize hy : rd_T24 M i = y at a0 a1 a2 a3 ae aC hmem hsn
      have AC := Aside0.mk aC
      have hy4 := Lib.hid (fit_range (d := 4) (HF1.out y hmem.out))
      have hl1 := (encX_len y hy4.out).1
      have hl2 := (encX_len y hy4.out).2
      clear aC hy
      go_wp2_with fail
      go_at_call 25
      refine (deep_any 4 0 (by omega) y (HF1.out y hmem.out) wr B e AC.out).mono ?_
      rintro _ w2 ⟨⟨A2, c2, rfl, hM2⟩, hb2⟩
      obtain ⟨_, _, _, _, _, e2, hc2, hC2⟩ := x_form hM2
      simp only [Value.slice.injEq] at e2
      obtain ⟨rfl, -, rfl⟩ := e2
      have HC2 := Aside0.mk hC2
      have HB2 := Aside0.mk (HBr.out.trans (hb2.mono HBr.out.size))
      have hok := Lib.hid (deep_ok 4 y hy4.out)
      have hen : encX y = encD 4 (deepS 4 y) := rfl
      generalize hz : deepS 4 y = z at hc2 HC2 hok hen
      have hen' := Lib.hid hen
      clear hM2 hC2 hb2 hen
      go_wp2_with fail
      go_at_call 24
      refine (encode_any z hok.out w2 (tab_on HT.out (by exact (HB1.out.trans (HB2.out.mono HB1.out.size)))) (by rw [← hen'.out]; omega) _ _ hc2 (by exact HC2.out)).mono ?_
      rintro _ w3 ⟨rfl, hb3⟩
      rw [← hen'.out]
      have HB3 := Aside0.mk (HB2.out.trans (hb3.mono HB2.out.size))
      have hbx3 : w3.heap[W.heap.size]? = some (bbox A L.length c tail cut) := (HB3.out.block _ (blk_lt HX.out)).trans HX.out
      obtain ⟨x0, x1, x2⟩ : w3.cell? ⟨W.heap.size, 0, none⟩ = some (.slice A L.length c) ∧ w3.cell? ⟨W.heap.size, 1, none⟩ = some (.string tail) ∧ w3.cell? ⟨W.heap.size, 2, none⟩ = some (.int .i64 cut) := ⟨blk_cell hbx3 0, blk_cell hbx3 1, blk_cell hbx3 2⟩
      have hpr := pickF_range cut ((encX y).length) (by omega)
      clear hb3 hbx3
      go_wp2_with fail
      go_at_call 16
      refine (pick_walk cut ((encX y).length) (by omega) (by omega) _).mono ?_
      rintro _ w4 ⟨rfl, rfl⟩
      generalize hk : pickF cut ((encX y).length) = k at hpr
      obtain ⟨k, rfl⟩ := Int.eq_ofNat_of_zero_le hpr.1
      clear hk x0 x2
      have hk1 : (k : Int) ≤ ((encX y).length : Int) := by omega
      have hkn : k < (encX y).length := by omega
      have hdec := Lib.hid (show ansS ((⟨(encX y).toArray⟩ : ByteArray).extract 0 k) 4 0 = .no 3 by
        rw [hen'.out]
        exact ans_part hok.out k (by rw [← hen'.out]; exact hkn))
      have hex := Lib.hid (show ((⟨(encX y).toArray⟩ : ByteArray).extract 0 k).size ≤ 140738562097152 by rw [ByteArray.size_extract, size_mk]; omega)
      go_wp2_with fail
      go_at_call 10
      refine (decode_no hdec.out _ ad (errs_on HE.out (by exact (HB1.out.trans (HB3.out.mono HB1.out.size)))) hex.out).mono ?_
      rintro _ w5 ⟨A5, c5, rfl, _, hb5⟩
      have HB5 := Aside0.mk (below_alloc (HB3.out.trans (hb5.mono HB3.out.size)) (ago ⟨0, 0, ⟨#[]⟩, []⟩ A5 c5))
      clear hb5
      go_wp2_with fail
      go_at_call 13
      refine (knum_any _ ad (errs_on HE.out (by exact (HB1.out.trans (HB5.out.mono HB1.out.size)))) 3 (by omega)).mono ?_
      rintro _ w6 ⟨rfl, rfl⟩
      have hcat := Lib.hid (bytes_app (catB (M.take i)) (encX y))
      have hca : ¬ (9223372036854775807 : Int) < (((catB (M.take i)).length : Int) + ((encX y).length : Int)) := by omega
      by_cases hbig : (catB (M.take (i + 1))).length ≤ 16777216
      · have hbig' : ¬ (16777216 : Int) < (((catB (M.take i)).length : Int) + ((encX y).length : Int)) := by rw [hsn.out, List.length_append] at hbig; omega
        go_wp2_with fail
        refine ⟨⟨i + 1, by rw [hcat.out, hsn.out], by go_num, by omega, hbig, HB5⟩, by simp [intOf]; omega⟩
      · have hbig' : (16777216 : Int) < (((catB (M.take i)).length : Int) + ((encX y).length : Int)) := by rw [hsn.out, List.length_append] at hbig; omega
        go_wp2_with fail
        go_ret
        exact ⟨rfl, HB1.out.trans (HB5.out.mono HB1.out.size)⟩
    · have hlt' : ¬ (i : Int) < (M.length : Int) := by omega
      obtain rfl : i = M.length := by omega
      rw [List.take_length] at hsz ⊢
      have hbxr : wr.heap[W.heap.size]? = some (bbox A L.length c tail cut) := (HBr.out.block _ (blk_lt HX.out)).trans HX.out
      have x1 : wr.cell? ⟨W.heap.size, 1, none⟩ = some (.string tail) := blk_cell hbxr 1
      have htl := Lib.hid (show tail = ⟨tail.data.toList.toArray⟩ by rw [Array.toArray_toList])
      have hts := Lib.hid (show tail.data.toList.length = tail.size by simp)
      have hca : ¬ (9223372036854775807 : Int) < (((catB M).length : Int) + (tail.size : Int)) := by omega
      have hcat := Lib.hid (show (⟨(catB M).toArray⟩ : ByteArray) ++ tail = ⟨(catB (M.drop 0) ++ tail.data.toList).toArray⟩ by
        have := bytes_app (catB M) tail.data.toList
        rw [Array.toArray_toList] at this
        exact this)
      clear hbxr
      go_wp2_with fail
      rw [hcat.out]
      go_loopw [4, 11] (fun v4 v11 W' => ∃ j : Nat, v4 = .string ⟨(catB (M.drop j) ++ tail.data.toList).toArray⟩ ∧ v11 = .int .i64 j ∧ j ≤ M.length ∧ (catB (M.drop j)).length ≤ 16777216 ∧ Aside0 (Below w1.heap.size w1 W')) (fun _ v11 _ => M.length - (intOf v11).toNat)
      case atStart => exact ⟨0, rfl, rfl, by omega, by simpa using hsz, HBr⟩
      case round =>
        obtain ⟨j, rfl, rfl, hj, hsz, HBs⟩ := hrel
        by_cases hlt : j < M.length
        · have hlt' : (j : Int) < (M.length : Int) := by omega
          obtain ⟨a, B, e, rfl, a0, a1, a2, a3, ae, aC⟩ := elem_K (Kd.C_below HC1.out HBs.out) j hlt
          have hmem := Lib.hid (rd_mem hlt)
          have hsn := Lib.hid (show catB (M.drop j) = encX (rd_T24 M (j : Int)) ++ catB (M.drop (j + 1)) by rw [rd_at M j hlt]; exact catB_drop M j hlt)
          generalize hy : rd_T24 M j = y at a0 a1 a2 a3 ae aC hmem hsn
          have hyy := Lib.hid hy
          have AC := Aside0.mk aC
          have hy4 := Lib.hid (fit_range (d := 4) (HF1.out y hmem.out))
          have hl1 := (encX_len y hy4.out).1
          have hl2 := (encX_len y hy4.out).2
          have hok := Lib.hid (deep_ok 4 y hy4.out)
          have hdec := Lib.hid (show ansS ⟨(catB (M.drop j) ++ tail.data.toList).toArray⟩ 4 0 = .ok (deepS 4 y) (encX y).length by
            rw [hsn.out, List.append_assoc]
            exact ans_whole hok.out _)
          have hex := Lib.hid (show (⟨(catB (M.drop j) ++ tail.data.toList).toArray⟩ : ByteArray).size ≤ 140738562097152 by rw [size_mk, List.length_append, hts.out]; omega)
          clear aC hy a0 a1 a2 a3
          go_wp2_with fail
          go_at_call 10
          refine (decode_ok hdec.out _ ad (errs_on HE.out (by exact (HB1.out.trans (HBs.out.mono HB1.out.size)))) hex.out).mono ?_
          rintro _ w2 ⟨A2, c2, rfl, hc2, hC2, hb2⟩
          generalize hz : deepS 4 y = z at hc2 hC2 hok hdec
          have HZ := Lib.hid hz
          have HC2 := Aside0.mk (Kd.C_alloc hC2 (ago z A2 c2))
          have HB2 := Aside0.mk (below_alloc (HBs.out.trans (hb2.mono HBs.out.size)) (ago z A2 c2))
          obtain ⟨⟨z0, z1, z2, z3⟩, zf0, zf1, zf2, zf3⟩ := (ago_at w2 z A2 c2).cells
          obtain ⟨a', B', e', ea, a0, a1, a2, a3, ae', aC'⟩ := elem_K (Kd.C_below HC1.out HB2.out) j hlt
          simp only [Option.some.injEq] at ea
          subst ea
          rw [hyy.out] at a0 a1 a2 a3 ae' aC'
          have AC2 := Aside0.mk aC'
          have HZA := Aside0.mk (ago_at w2 z A2 c2)
          clear hz hC2 hb2 aC'
          go_wp2_with fail
          have HD := Lib.hid (fun (w : World) (h : k24.C w B' y.f3.length y.f3) => (show Calls Tryd.prog 25 #[agv y B' e', .int .i64 ((0 : Nat) : Int)] w (DeepOk z w) from HZ.out ▸ deep_any 4 0 (by omega) y (HF1.out y hmem.out) w B' e' h))
          go_region_law (first | (go_simp; go_at_call 25; refine (HD.out _ (by exact (Kd.C_below AC2.out (below_drew (Below.refl _ _))))).mono ?_; rintro _ w4 ⟨⟨A4, c4, rfl, hM4⟩, hb4⟩; obtain ⟨_, _, _, _, _, e4, hc4, hC4⟩ := x_form hM4; simp only [Value.slice.injEq] at e4; obtain ⟨rfl, -, rfl⟩ := e4; have HB4 := Aside0.mk (HB2.out.trans (show Below w1.heap.size (w2.alloc (ago z A2 c2)) w4 from (below_drew (Below.refl _ _)).trans (hb4.mono HB2.out.size))); obtain ⟨⟨y0, y1, y2, y3⟩, _⟩ := RAt.cells (show RAt w4 w2.heap.size _ _ _ _ from (hb4.block _ (blk_lt HZA.out)).trans HZA.out); have HC4 := Aside0.mk hC4; have HC24 := Aside0.mk (show k24.C w4 A2 z.f3.length z.f3 from Kd.C_below HC2.out (show Below (w2.alloc (ago z A2 c2)).heap.size (w2.alloc (ago z A2 c2)) w4 from (below_drew (Below.refl _ _)).trans hb4)); clear hM4 hb4 hC4) | (go_simp; go_at_call 12; refine (same_all _ z (Nat.le_refl _) _ _ _ _ _ hc2 hc4 (by exact HC24.out) (by exact HC4.out)).mono ?_; rintro _ w5 ⟨rfl, hb5⟩; have HB5 := Aside0.mk (HB4.out.trans (hb5.mono HB4.out.size)); clear hb5))
          all_goals
            have hq1 : ¬ ((encX y).length : Int) < 1 := by omega
            have hq3 : (encX y).length ≤ (catB (M.drop j)).length := by rw [hsn.out, List.length_append]; omega
            have hq2 : ((encX y).length : Int) ≤ ((catB (M.drop j)).length : Int) + (tail.size : Int) := by omega
            have hdr := Lib.hid (show (⟨(catB (M.drop j) ++ tail.data.toList).toArray⟩ : ByteArray).extract (encX y).length ((catB (M.drop j)).length + tail.size) = ⟨(catB (M.drop (j + 1)) ++ tail.data.toList).toArray⟩ by
              have := drop_app (encX y) (catB (M.drop (j + 1)) ++ tail.data.toList)
              rw [← List.append_assoc, ← hsn.out, List.length_append, hts.out] at this
              exact this)
            have hsz' : (catB (M.drop (j + 1))).length ≤ 16777216 := by rw [hsn.out, List.length_append] at hsz; omega
            go_wp2_with fail
            refine ⟨⟨_, _, _, ⟨j + 1, rfl, rfl, by omega, hsz'⟩, rfl, by rw [hdr.out], by go_num⟩, by simp [intOf]; omega⟩
        · have hlt' : ¬ (j : Int) < (M.length : Int) := by omega
          obtain rfl : j = M.length := by omega
          have hbxr : wr.heap[W.heap.size]? = some (bbox A L.length c tail cut) := (HBs.out.block _ (blk_lt HX.out)).trans HX.out
          have x1 : wr.cell? ⟨W.heap.size, 1, none⟩ = some (.string tail) := blk_cell hbxr 1
          have hend := Lib.hid (show (⟨(catB (M.drop M.length) ++ tail.data.toList).toArray⟩ : ByteArray) = tail by
            rw [List.drop_length]
            show (⟨([] ++ tail.data.toList).toArray⟩ : ByteArray) = tail
            rw [List.nil_append, Array.toArray_toList])
          clear hbxr
          rw [hend.out]
          go_wp2_with fail
          go_ret
          exact ⟨by simp, HB1.out.trans (HBs.out.mono HB1.out.size)⟩
end Go.Proofs.YtbdfjiobegadjaaDoor.Wr
