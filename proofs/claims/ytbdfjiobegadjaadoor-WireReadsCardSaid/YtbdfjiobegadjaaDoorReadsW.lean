/- The walk of the law: two readers, fed and asked in turns. -/
import Derived.Test.YtbdfjiobegadjaaDoorReadsA
namespace Go.Proofs.YtbdfjiobegadjaaDoor.Rf
open Go Go.RowKit Go.Proofs.YtbdfjiobegadjaaDoor.Op Go.Proofs.YtbdfjiobegadjaaDoor.Tk Go.Proofs.YtbdfjiobegadjaaDoor.Pl Go.Proofs.YtbdfjiobegadjaaDoor.Rd Go.Proofs.YtbdfjiobegadjaaDoor.PWireMemory Go.Proofs.YtbdfjiobegadjaaDoorW.PrintWords Go.Proofs.YtbdfjiobegadjaaDoorW.PrintLast Go.Proofs.YtbdfjiobegadjaaDoorW.PrintMore
set_option linter.unusedVariables false
set_option linter.unusedSectionVars false
set_option linter.unusedSimpArgs false
set_option maxHeartbeats 20000000 in
set_option maxRecDepth 100000 in
theorem walk_reads (L : List Step) (A : Option Addr) (c : Nat) (W : World) (ad : Nat → Addr) (hE : Errs W ad) (hC : k42.C W A L.length L) (hlen : L.length * 32 ≤ 140737488351232) (hs : ∀ x ∈ L, x.2.2.size ≤ 140737488355328) :
    Calls Tryd.prog 4 #[.slice A L.length c] W fun e w' => e = .returned (.bool true) ∧ Below W.heap.size W w' := by
  have HE := Aside0.mk hE
  have HC := Aside0.mk hC
  clear hE hC
  go_enter Tryd.func4, Tryd.ntmps4
  go_wp2_with fail
  go_at_call 14
  refine (new_any _).mono ?_
  rintro _ w1 ⟨rfl, rfl⟩
  go_wp2_with fail
  go_at_call 14
  refine (new_any _).mono ?_
  rintro _ w1 ⟨rfl, rfl⟩
  go_wp2_with fail
  go_at_call 15
  refine (rnew_any _).mono ?_
  rintro _ w1 ⟨rfl, rfl⟩
  go_wp2_with fail
  go_at_call 15
  refine (rnew_any _).mono ?_
  rintro _ w1 ⟨rfl, rfl⟩
  go_wp2_with fail
  obtain ⟨Wm, hWm⟩ : ∃ Wm, Wm = made W := ⟨_, rfl⟩
  have HM := Aside0.mk (show MadeAt W Wm from hWm ▸ made_at W)
  rw [show ((((((W.alloc (rz W.heap.size)).alloc (rz (W.heap.size + 1))).alloc (pp 35 W.heap.size (W.heap.size + 1))).alloc nz).alloc nz).alloc (pp 38 (W.heap.size + 1 + 1 + 1) (W.heap.size + 1 + 1 + 1 + 1))) = Wm from hWm.symm]
  clear hWm
  go_loopw [5, 6] (fun v5 v6 W' => W' = Wm ∧ ∃ i : Nat, v6 = .int .i64 i ∧ v5 = .int .i64 (16777216 - (fedN (L.take i) : Int)) ∧ i ≤ L.length ∧ (16777216 - (fedN (L.take i) : Int)) ≥ -140737488355328) (fun v5 v6 _ => L.length - (intOf v6).toNat)
  case atStart => exact ⟨rfl, 0, rfl, by simp [fedN], by omega, by simp [fedN]⟩
  case round =>
    obtain ⟨hww, i, rfl, rfl, hi, hn⟩ := hrel
    have hww := hww.symm
    subst hww
    by_cases hlt : i < L.length
    · have hlt' : (i : Int) < (L.length : Int) := by omega
      by_cases hng : (16777216 - (fedN (L.take i) : Int)) ≥ 0
      · have hsn := fed_snoc L i hlt
        have hsz := hs _ (List.getElem_mem hlt)
        obtain ⟨a, rfl, ha0, ha1, ha2⟩ := k42_at (Kd.C_below HC.out HM.out.below) i hlt
        generalize fedN (L.take i) = n at *
        go_wp2_with fail
        go_roundw
        case rel => exact ⟨trivial, i + 1, by go_num, by rw [hsn]; go_num, by omega, by rw [hsn]; omega⟩
        case measure => simp [intOf]; omega
      · have hn0 : (16777216 - (fedN (L.take i) : Int)) < 0 := by omega
        generalize (16777216 - (fedN (L.take i) : Int)) = m at *
        go_wp2_with fail
        go_ret
        exact ⟨rfl, HM.out.below⟩
    · have hlt' : ¬ (i : Int) < (L.length : Int) := by omega
      obtain rfl : i = L.length := by omega
      rw [List.take_length] at hn ⊢
      by_cases hng : (16777216 - (fedN L : Int)) ≥ 0
      · have hF : fedN L ≤ 16777216 := by omega
        have hn0 : ¬ (16777216 - (fedN L : Int)) < 0 := by omega
        generalize (16777216 - (fedN L : Int)) = m at *
        go_wp2_with (first | ((with_reducible refine gate_builtin (b := .append) (xs := #[.tmp 53, .tmp 54]) rfl ?_); at_builtin; refine Kd.R_append_rows k42 (w0 := Wm) Wm.heap.size rfl (.tmp 53) (.tmp 54) 34 42 (.agg #[.int .i64 0, .bool false, .string ⟨#[]⟩]) 32 rfl Tryd.underlying34 info42 rfl (by decide) (by omega) (.slice none 0 0) [] L A L.length c (fun _ => True) (fun _ => False) rfl rfl (Kd.R_nil _ _ _ _ _) (Kd.C_below HC.out HM.out.below) (fun x cs h => h) (fun k hk => hk.elim) (fun _ _ => trivial) (Below.refl _ _) (Nat.le_refl _) (by simp; omega) ?_; intro v1 w1 ho1 hb1 hg1 hat1; obtain ⟨A1, c1, e1⟩ := Kd.R_slice ho1; subst e1; have HO1 := Aside0.mk (show k42.R 42 w1 Wm.heap.size (fun _ => True) (.slice A1 L.length c1) L from ho1); have HB1 := Aside0.mk hb1; clear ho1 hb1 hg1 hat1) | ((with_reducible refine gate_builtin (b := .append) (xs := #[.tmp 56, .tmp 59]) rfl ?_); at_builtin; refine Kd.R_append_rows k42 (w0 := Wm) Wm.heap.size rfl (.tmp 56) (.tmp 59) 34 42 (.agg #[.int .i64 0, .bool false, .string ⟨#[]⟩]) 32 rfl Tryd.underlying34 info42 rfl (by decide) (by omega) (.slice A1 L.length c1) L two (some ⟨w1.heap.size, 0, none⟩) 2 2 (fun _ => True) (fun _ => False) rfl rfl (Kd.R_alloc HO1.out _) (two_C w1) (fun x cs h => h) (fun k hk => hk.elim) (fun _ _ => trivial) (HB1.out.alloc HB1.out.size _) (by have := HB1.out.size; simp; omega) (by omega) ?_; intro v2 w2 ho2 hb2 hg2 hat2; obtain ⟨A2, c2, e2⟩ := Kd.R_slice ho2; subst e2; have HO2 := Aside0.mk ho2; have HB2 := Aside0.mk hb2; clear ho2 hb2 hg2 hat2))
        have hS := Aside0.mk HO2.out
        have HT := Aside0.mk (two_start W Wm w2 ad HM.out HB2.out)
        have hcl := Lib.hid HC
        clear HO2 HO1 HB1 HC
        have hl2 : (L ++ two).length = L.length + 2 := by simp
        have hF2 := Lib.hid (fun i => fed_two L i hF)
        have hs2 : ∀ x ∈ L ++ two, x.2.2.size ≤ 140737488355328 := size_two L hs
        generalize L ++ two = S at *
        go_loopw [8] (fun v8 W' => ∃ (i : Nat) (p : Nat → PS) (d : Nat → Nat → Prop), v8 = .int .i64 i ∧ i ≤ S.length ∧ Aside0 (TwoAt W.heap.size W.heap.size ad w2 W' p d (fedN (S.take i)))) (fun v8 _ => S.length - (intOf v8).toNat)
        case atStart => exact ⟨0, _, _, rfl, by omega, ⟨HT.out⟩⟩
        case round =>
          obtain ⟨i, p, d, rfl, hi, HI⟩ := hrel
          by_cases hlt : i < S.length
          · have hlt' : (i : Int) < (S.length : Int) := by omega
            obtain ⟨a, rfl, ha0, ha1, ha2⟩ := k42_at (two_steps HM.out HB2.out HI.out.stay hS.out) i hlt
            have hpr := pickF_range (S[i]).1 2 (by omega)
            obtain ⟨k, hk⟩ : ∃ k : Nat, pickF (S[i]).1 2 = (k : Int) := ⟨(pickF (S[i]).1 2).toNat, by omega⟩
            have hk2 : k < 2 := by omega
            obtain ⟨hp, hn⟩ := two_facts (a := none) (n := 0) (c := 0) (S := []) HM.out HB2.out HI.out.stay k hk2
            have hsn := Lib.hid (fed_snoc S i hlt)
            have hfi := Lib.hid (hF2.out i)
            have hfi1 := Lib.hid (hF2.out (i + 1))
            have hszx := hs2 _ (List.getElem_mem hlt)
            generalize hx : S[i] = x at *
            obtain ⟨on, ask, data⟩ := x
            dsimp only at *
            go_wp2_with fail
            refine (pick_walk on 2 (by omega) (by omega) wr).mono ?_
            rintro _ w4 ⟨rfl, rfl⟩
            rw [hk]
            have hk' : (k : Int) < 2 := by omega
            have hsz2 := HB2.out.size
            have hz := HM.out.size
            have hdz : data.size ≤ 16777216 := by
              have := hsn.out
              have := hfi1.out
              omega
            have hh6 : W.heap.size + 6 ≤ w2.heap.size := by omega
            clear hpr hk
            cases ask with
            | true =>
              go_wp2_with fail
              have hsw := HI.out.size
              cases hpk : p k with
              | live st wp wr =>
                have hP := HI.out.pair k hk2
                rw [hpk] at hP
                obtain ⟨q1, q2, q3, q4, q5⟩ := hP
                have q6 := sync_le q4
                have hT := hfi.out
                have HR := rep_mono q1 (d' := domN d k w4) (fun x hx _ => .inl hx)
                have hcx := two_cx HI.out (by omega) hh6 (two_en HE.out HM.out HB2.out HI.out) k hk2
                have hb := q4.both
                refine (next_any W.heap.size W.heap.size (W.heap.size + k) (domN d k w4) ad w4 hcx wp (by omega) st q2 HR).mono ?_
                rintro e w5 ⟨u1, u2⟩
                have U2 := Aside0.mk u2
                obtain ⟨p5, n5⟩ := two_facts (a := none) (n := 0) (c := 0) (S := []) HM.out HB2.out (two_stay HI.out hh6 k hk2 u2) k hk2
                have N5 := Aside0.mk (two_nat HI.out hh6 k hk2 u2 hpk)
                have hsw5 := u2.size
                generalize hr : runF wp wp.size 0 st = r at *
                generalize hR : nextF (wr.size + 1) wr = R at *
                clear q1 q3 q4 HR hcx u2 p5 hp hn ha0 ha1 ha2
                have Hx := Lib.hid hx
                clear hx
                cases hb with
                | more st' s' hsy hl =>
                  obtain ⟨rfl, u3⟩ := u1
                  have hok' := Lib.hid (runF_ok q2 hr)
                  have U3 := Aside0.mk u3
                  have HSy := Aside0.mk hsy
                  have HRR := Lib.hid hR
                  clear hr u3 hsy q2 hR
                  go_wp2_with fail
                  refine (ref_next w5 (W.heap.size + 3 + k) wr (by omega) N5.out).mono ?_
                  rintro e w6 ⟨v1, v2⟩
                  rw [HRR.out] at v1
                  obtain ⟨rfl, v3⟩ := v1
                  have hq := Aside0.mk (show PairAt w6 W.heap.size ad (W.heap.size + k) (W.heap.size + 3 + k) (domN d k w4) (fedN (S.take i)) (.live st' ⟨#[]⟩ s') from ⟨rep_keep U3.out (v2.keep _ (by omega) (by omega)) (two_rows HI.out hh6 k hk2 v2), hok'.out, v3, HSy.out, by omega⟩)
                  have V2 := Aside0.mk v2
                  clear v2 v3
                  go_wp2_with fail
                  refine (same_strings [] w6 none none 0 0 (Kd.C_nil _ _) (Kd.C_nil _ _)).mono ?_
                  rintro e w7 ⟨rfl, b7⟩
                  have HN := Aside0.mk (two_ask HI.out hh6 k hk2 U2.out V2.out b7 hq.out)
                  clear b7
                  go_wp2_with fail
                  refine (knum_nil w7).mono ?_
                  rintro e w8 ⟨rfl, rfl⟩
                  go_wp2_with fail
                  go_roundw
                  case rel =>
                    obtain ⟨p', d', HN⟩ := HN.out
                    exact ⟨i + 1, p', d', by go_num, by omega, ⟨HN.more (by rw [hsn.out]; omega)⟩⟩
                  case measure => simp [intOf]; omega
                | whole l j hj hsy hl =>
                  obtain ⟨v, rfl, u3, u4⟩ := u1
                  obtain ⟨A5, c5, rfl⟩ := Kd.R_slice u4
                  have U3 := Aside0.mk u3
                  have U4 := Aside0.mk u4
                  have HSy := Aside0.mk hsy
                  have HRR := Lib.hid hR
                  clear hr u3 u4 hsy q2 hR
                  go_wp2_with fail
                  refine (ref_next w5 (W.heap.size + 3 + k) wr (by omega) N5.out).mono ?_
                  rintro e w6 ⟨v1, v2⟩
                  rw [HRR.out] at v1
                  obtain ⟨v, rfl, v3, v4⟩ := v1
                  obtain ⟨A6, c6, rfl⟩ := Kd.R_slice v4
                  have HC6 := Aside0.mk (Kd.R_reads' v4).2.2
                  have HC5 := Aside0.mk (Kd.R_reads' (show Kd.string.R 9 w6 W.heap.size (domN d k w4) (.slice A5 l.length c5) l from Kd.R_step U4.out (two_rows HI.out hh6 k hk2 v2))).2.2
                  have hq := Aside0.mk (show PairAt w6 W.heap.size ad (W.heap.size + k) (W.heap.size + 3 + k) (domN d k w4) (fedN (S.take i)) (.live .start (wp.extract j wp.size) (wp.extract j wp.size)) from ⟨rep_keep U3.out (v2.keep _ (by omega) (by omega)) (two_rows HI.out hh6 k hk2 v2), trivial, v3, HSy.out, by rw [ByteArray.size_extract]; omega⟩)
                  have V2 := Aside0.mk v2
                  clear v2 v3 v4
                  go_wp2_with fail
                  refine (same_strings l w6 A5 A6 c5 c6 HC5.out HC6.out).mono ?_
                  rintro e w7 ⟨rfl, b7⟩
                  have HN := Aside0.mk (two_ask HI.out hh6 k hk2 U2.out V2.out b7 hq.out)
                  clear b7
                  go_wp2_with fail
                  refine (knum_nil w7).mono ?_
                  rintro e w8 ⟨rfl, rfl⟩
                  go_wp2_with fail
                  go_roundw
                  case rel =>
                    obtain ⟨p', d', HN⟩ := HN.out
                    exact ⟨i + 1, p', d', by go_num, by omega, ⟨HN.more (by rw [hsn.out]; omega)⟩⟩
                  case measure => simp [intOf]; omega
                | bad kk hkk =>
                  obtain ⟨rfl, u3⟩ := u1
                  have U3 := Aside0.mk u3
                  have HRR := Lib.hid hR
                  clear hr u3 q2 hR
                  go_wp2_with fail
                  refine (ref_next w5 (W.heap.size + 3 + k) wr (by omega) N5.out).mono ?_
                  rintro e w6 ⟨v1, v2⟩
                  rw [HRR.out] at v1
                  obtain ⟨rfl, v3⟩ := v1
                  obtain ⟨y0, y2, y3, y4, y5, y6, y7, y8, y9, hy⟩ := U3.out
                  have hq := Aside0.mk (show PairAt w6 W.heap.size ad (W.heap.size + k) (W.heap.size + 3 + k) (domN d k w4) (fedN (S.take i)) (.dead kk) from ⟨⟨_, _, _, _, _, _, _, _, _, (v2.keep _ (by omega) (by omega)).trans hy⟩, v3, hkk⟩)
                  have V2 := Aside0.mk v2
                  clear v2 v3 hy
                  go_wp2_with fail
                  refine (same_strings [] w6 none none 0 0 (Kd.C_nil _ _) (Kd.C_nil _ _)).mono ?_
                  rintro e w7 ⟨rfl, b7⟩
                  have HN := Aside0.mk (two_ask HI.out hh6 k hk2 U2.out V2.out b7 hq.out)
                  clear b7
                  go_wp2_with fail
                  obtain ⟨p', d', HN'⟩ := HN.out
                  refine (knum_any w7 ad (two_en HE.out HM.out HB2.out HN').errs kk (by omega)).mono ?_
                  rintro e w8 ⟨rfl, rfl⟩
                  have hN := Aside0.mk HN'
                  clear HN'
                  go_wp2_with fail
                  go_roundw
                  case rel => exact ⟨i + 1, p', d', by go_num, by omega, ⟨hN.out.more (by rw [hsn.out]; omega)⟩⟩
                  case measure => simp [intOf]; omega
              | dead kk =>
                have hP := HI.out.pair k hk2
                rw [hpk] at hP
                obtain ⟨q1, q2, q3⟩ := hP
                have Q2 := Aside0.mk q2
                refine (next_err (W.heap.size + k) (fun _ => False) ad kk w4 q1).mono ?_
                rintro e w5 ⟨rfl, n1, rfl⟩
                have HN := Aside0.mk (HI.out.drewN n1)
                obtain ⟨p5, n5⟩ := two_facts (a := none) (n := 0) (c := 0) (S := []) HM.out HB2.out HN.out.stay k hk2
                clear q1 q2 p5 hp hn ha0 ha1 ha2
                have Hx := Lib.hid hx
                clear hx
                go_wp2_with fail
                refine (ref_err (w4.drewN n1) (W.heap.size + 3 + k) _ kk (by exact Q2.out)).mono ?_
                rintro e w6 ⟨rfl, n2, rfl⟩
                go_wp2_with fail
                refine (same_strings [] _ none none 0 0 (Kd.C_nil _ _) (Kd.C_nil _ _)).mono ?_
                rintro e w7 ⟨rfl, b7⟩
                have HN' := Aside0.mk ((HI.out.drewN (n1 + n2)).below b7)
                clear b7
                go_wp2_with fail
                refine (knum_any w7 ad (two_en HE.out HM.out HB2.out HN'.out).errs kk (by omega)).mono ?_
                rintro e w8 ⟨rfl, rfl⟩
                go_wp2_with fail
                go_roundw
                case rel => exact ⟨i + 1, _, _, by go_num, by omega, ⟨HN'.out.more (by rw [hsn.out]; omega)⟩⟩
                case measure => simp [intOf]; omega
            | false =>
              go_wp2_with fail
              cases hpk : p k with
              | live st wp wr =>
                have hP := HI.out.pair k hk2
                rw [hpk] at hP
                obtain ⟨q1, q2, q3, q4, q5⟩ := hP
                have q6 := sync_le q4
                have Q1 := Aside0.mk q1
                have hT := hfi.out
                clear q1 q2 q3 q4
                go_region_law (go_simp; go_at_call 17; refine (feed_good _ W.heap.size (W.heap.size + k) (d k) wp data st (by omega) (by exact Q1.out)).mono ?_; rintro _ w5 ⟨rfl, u1, u2⟩; have U1 := Aside0.mk u1; have U2 := Aside0.mk (show w5 = w4.drew.setCell ⟨W.heap.size + k, 0, none⟩ (.string (wp ++ data)) from u2); clear u1 u2)
                all_goals
                  have hst5 := two_stay5 HI.out k hk2 U2.out
                  obtain ⟨p5, n5⟩ := two_facts (a := none) (n := 0) (c := 0) (S := []) HM.out HB2.out hst5 k hk2
                  obtain ⟨b0, b1, b2⟩ := k42_at' (two_steps HM.out HB2.out hst5 hS.out) i hlt
                  rw [hx] at b2
                  have N5 := Aside0.mk (two_nat5 HI.out k hk2 U2.out hpk)
                  have Hx := Lib.hid hx
                  clear hst5 p5 b0 b1 hp hn ha0 ha1 ha2 hx
                  go_wp2_with fail
                  go_region_law (go_simp; go_at_call 18; refine (rfeed_good _ (W.heap.size + 3 + k) wr data (by omega) (by exact N5.out)).mono ?_; rintro _ w6 ⟨rfl, u3⟩; have U3 := Aside0.mk (show w6 = w5.drew.setCell ⟨W.heap.size + 3 + k, 0, none⟩ (.string (wr ++ data)) from u3); clear u3)
                  all_goals
                    obtain ⟨p', d', HN⟩ := two_feed HI.out hh6 k hk2 data wp wr st hpk U1.out U2.out U3.out
                    rw [← hsn.out] at HN
                    have HN := Aside0.mk HN
                    go_wp2_with fail
                    go_roundw
                    case rel => exact ⟨i + 1, p', d', by go_num, by omega, HN⟩
                    case measure => simp [intOf]; omega
              | dead kk =>
                have hP := HI.out.pair k hk2
                rw [hpk] at hP
                obtain ⟨q1, q2, q3⟩ := hP
                have Q1 := Aside0.mk q1
                have Q2 := Aside0.mk q2
                clear q1 q2
                go_region_law (go_simp; go_at_call 17; refine (feed_err _ (W.heap.size + k) ad kk data (by exact Q1.out)).mono ?_; rintro _ w5 ⟨rfl, u2⟩; have U2 := Aside0.mk (show w5 = w4.drewN 1 from u2); clear u2)
                all_goals
                  have HN := (HI.out.drewN 1).more (T' := fedN (S.take (i + 1))) (by rw [hsn.out]; omega)
                  rw [← U2.out] at HN
                  have HN := Aside0.mk HN
                  have hst5 := HN.out.stay
                  obtain ⟨p5, n5⟩ := two_facts (a := none) (n := 0) (c := 0) (S := []) HM.out HB2.out hst5 k hk2
                  obtain ⟨b0, b1, b2⟩ := k42_at' (two_steps HM.out HB2.out hst5 hS.out) i hlt
                  rw [hx] at b2
                  have N5 := Aside0.mk (show NAt w5 _ _ _ by rw [U2.out]; exact Q2.out)
                  have Hx := Lib.hid hx
                  clear hst5 p5 b0 b1 hp hn ha0 ha1 ha2 hx
                  go_wp2_with fail
                  go_region_law (go_simp; go_at_call 18; refine (rfeed_err _ (W.heap.size + 3 + k) _ data kk (by exact N5.out)).mono ?_; rintro _ w6 ⟨rfl, u3⟩; have U3 := Aside0.mk (show w6 = w5.drewN 1 from u3); clear u3)
                  all_goals
                    have HN6 := HN.out.drewN 1
                    rw [← U3.out] at HN6
                    have HN6 := Aside0.mk HN6
                    go_wp2_with fail
                    go_roundw
                    case rel => exact ⟨i + 1, _, _, by go_num, by omega, HN6⟩
                    case measure => simp [intOf]; omega
          · have hlt' : ¬ (i : Int) < (S.length : Int) := by omega
            go_wp2_with fail
            go_ret
            exact ⟨rfl, HM.out.below.trans ((two_below HM.out HB2.out HI.out))⟩
      · have hn0 : (16777216 - (fedN L : Int)) < 0 := by omega
        generalize (16777216 - (fedN L : Int)) = m at *
        go_wp2_with fail
        go_ret
        exact ⟨rfl, HM.out.below⟩
end Go.Proofs.YtbdfjiobegadjaaDoor.Rf
