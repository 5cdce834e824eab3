/- The walk of the law: what is sent, cut anywhere, is read as it was sent. -/
import Derived.Test.YtbdfjiobegadjaaDoorStrN

namespace Go.Proofs.YtbdfjiobegadjaaDoor.Sm
open Go Go.RowKit Go.Proofs.YtbdfjiobegadjaaDoor.Op Go.Proofs.YtbdfjiobegadjaaDoor.Wr Go.Proofs.YtbdfjiobegadjaaDoor.Rf Go.Proofs.YtbdfjiobegadjaaDoor.Tk Go.Proofs.YtbdfjiobegadjaaDoor.Rd Go.Proofs.YtbdfjiobegadjaaDoor.PWireMemory Go.Proofs.YtbdfjiobegadjaaDoorW.PrintWords Go.Proofs.YtbdfjiobegadjaaDoorW.PrintLast Go.Proofs.YtbdfjiobegadjaaDoorW.PrintMore
set_option linter.unusedVariables false
set_option linter.unusedSectionVars false
set_option linter.unusedSimpArgs false
abbrev k67 : Kd Sent := Kd.pair (Kd.slice 9 Kd.string) Kd.bool
abbrev sx (L : List Sent) (i : Nat) : Sent := L.getD i ([], false)
abbrev sbox (A : Option Addr) (n c : Nat) (B : Option Addr) (m e : Nat) (tail : ByteArray) : Obj := .cells #[.slice A n c, .slice B m e, .string tail] 65
theorem k67_mk (w : World) (x : Sent) {A : Option Addr} {c : Nat} (hc : x.1.length ≤ c) (h : Kd.string.C w A x.1.length x.1) : k67.K w x [.slice A x.1.length c, .bool x.2] := ⟨[.slice A x.1.length c], [.bool x.2], rfl, ⟨A, c, rfl, hc, h⟩, rfl⟩
theorem elem67 {w : World} {A : Option Addr} {n : Nat} {L : List Sent} (h : k67.C w A n L) (i : Nat) (hi : i < n) : ∃ (a : Addr) (B : Option Addr) (e : Nat), A = some a ∧
    w.cell? (a.add (i * 2)) = some (.slice B (sx L i).1.length e) ∧ w.cell? ⟨(a.add (i * 2)).block, (a.add (i * 2)).off + 1, none⟩ = some (.bool (sx L i).2) ∧ Kd.string.C w B (sx L i).1.length (sx L i).1 := by
  obtain ⟨a, c, hA, hl, hK, hc⟩ := Kd.C_get h ([], false) (i : Int) (by omega) (by omega)
  have hc0 : ∀ j u, c[j]? = some u → w.cell? (a.add (i * 2 + j)) = some u := fun j u hu => hc j u hu
  obtain ⟨_, _, rfl, ⟨B, e, rfl, _, hB⟩, rfl⟩ := (show k67.K w (sx L i) c from hK)
  refine ⟨a, B, e, hA, hc0 0 _ rfl, ?_, hB⟩
  have ha : (⟨(a.add (i * 2)).block, (a.add (i * 2)).off + 1, none⟩ : Addr) = a.add (i * 2 + 1) := by
    unfold Addr.add
    by_cases hz : i * 2 = 0 <;> simp [hz, Nat.add_assoc]
  rw [ha]
  exact hc0 1 _ rfl
theorem elemS {w : World} {A : Option Addr} {n : Nat} {L : List (List ByteArray)} (h : kS.C w A n L) (i : Nat) (hi : i < n) : ∃ (a : Addr) (B : Option Addr) (e : Nat), A = some a ∧
    w.cell? (a.add i) = some (.slice B (L.getD i []).length e) ∧ Kd.string.C w B (L.getD i []).length (L.getD i []) := by
  obtain ⟨a, c, hA, hl, hK, hc⟩ := Kd.C_get h [] (i : Int) (by omega) (by omega)
  have hc0 : ∀ j u, c[j]? = some u → w.cell? (a.add (i * 1 + j)) = some u := fun j u hu => hc j u hu
  obtain ⟨B, e, rfl, _, hB⟩ := (show kS.K w (L.getD i []) c from hK)
  exact ⟨a, B, e, hA, by simpa using hc0 0 _ rfl, hB⟩
theorem info67 : (Tryd.prog.info? 67).map (fun i => (i.zero, i.size, i.bytes)) = some (some (.agg #[.slice none 0 0, .bool false]), 2, 32) := by kernel_rfl
abbrev one1 : Sent := ([⟨#[103, 101, 116]⟩, ⟨#[97]⟩], false)
abbrev one2 : Sent := ([⟨#[112, 117, 116]⟩, ⟨#[98]⟩], true)
abbrev twoS : List Sent := [one1, one2]
abbrev wl1 (W : World) : World := W.alloc (.cells #[.string ⟨#[103, 101, 116]⟩, .string ⟨#[97]⟩] 9)
abbrev wl2 (W : World) : World := (wl1 W).alloc (.cells #[.string ⟨#[112, 117, 116]⟩, .string ⟨#[98]⟩] 9)
abbrev wl3 (W : World) (n : Nat) : World := (wl2 W).alloc (.cells #[.slice (some ⟨n, 0, none⟩) 2 2, .bool false, .slice (some ⟨n + 1, 0, none⟩) 2 2, .bool true] 67)
theorem row_two (W : World) (base n : Nat) (hn : W.heap.size = n) (hb : base ≤ n) : OwnRow (k67.K (wl2 W)) 67 2 (wl3 W n) base (.slice (some ⟨n + 1 + 1, 0, none⟩) 2 2) twoS := by
  subst hn
  have e1 : (wl1 W).heap.size = W.heap.size + 1 := by simp
  have e2 : (wl2 W).heap.size = W.heap.size + 1 + 1 := by simp
  have h1 : Kd.string.C (wl2 W) (some ⟨W.heap.size, 0, none⟩) 2 one1.1 := Kd.C_alloc (Kd.R_reads' (str_lit W base one1.1 hb (by decide))).2.2 _
  have h2 : Kd.string.C (wl2 W) (some ⟨W.heap.size + 1, 0, none⟩) 2 one2.1 := by
    have := (Kd.R_reads' (str_lit (wl1 W) base one2.1 (by omega) (by decide))).2.2
    rw [e1] at this
    exact this
  have := OwnRow.lit (R := k67.K (wl2 W)) (size := 2) (e := 67) (ps := twoS) (wl2 W) base (inner := [.slice (some ⟨W.heap.size, 0, none⟩) 2 2, .bool false, .slice (some ⟨W.heap.size + 1, 0, none⟩) 2 2, .bool true]) ⟨rfl, fun j p hj => by
    match j, hj with
    | 0, hj => simp only [List.getElem?_cons_zero, Option.some.injEq] at hj; subst hj; exact k67_mk _ one1 (Nat.le_refl _) h1
    | 1, hj => simp only [List.getElem?_cons_succ, List.getElem?_cons_zero, Option.some.injEq] at hj; subst hj; exact k67_mk _ one2 (Nat.le_refl _) h2
    | j + 2, hj => simp at hj⟩ (by omega) (by decide)
  rw [e2] at this
  exact this
theorem C67_of_own {W w1 : World} {base : Nat} {v1 : Value} {L : List Sent} (ho : OwnRow (k67.K W) 67 2 w1 base v1 L) (hb : Below W.heap.size W w1) : ∃ A c, v1 = .slice A L.length c ∧ k67.C w1 A L.length L := by
  obtain ⟨A, c, e, hl, hr⟩ := OwnRow.reads ho
  exact ⟨A, c, e, hr.imp_ (Below.refl _ _) (fun _ _ hp => k67.K_below hb hp)⟩
theorem sentB_size (x : Sent) : (sentB x).size ≤ 2000000 := bytes_size x.2 x.1
theorem two_ok (L : List Sent) (hs : ∀ x ∈ L, ∀ w ∈ x.1, w.size ≤ 140737488355328) : ∀ x ∈ twoS ++ L, ∀ w ∈ x.1, w.size ≤ 140737488355328 := by
  intro x hx w hw
  rcases List.mem_append.1 hx with hx | hx
  · simp [twoS] at hx
    rcases hx with rfl | rfl
    · simp at hw; rcases hw with rfl | rfl <;> decide
    · simp at hw; rcases hw with rfl | rfl <;> decide
  · exact hs x hx w hw
theorem sx_mem {L : List Sent} {i : Nat} (h : i < L.length) : sx L i ∈ L := by
  unfold sx
  rw [List.getD_eq_getElem?_getD, List.getElem?_eq_getElem h]
  exact List.getElem_mem h
theorem map_at (L : List Sent) (i : Nat) (h : i < L.length) : (L.map sentW).getD i [] = sentW (sx L i) := by
  unfold sx
  rw [List.getD_eq_getElem?_getD, List.getD_eq_getElem?_getD, List.getElem?_map, List.getElem?_eq_getElem h]
  rfl
set_option maxHeartbeats 4000000 in
set_option maxRecDepth 100000 in
theorem walk_stream (L : List Sent) (cuts : List Int) (tail : ByteArray) (A B : Option Addr) (c e : Nat) (W : World) (ad : Nat → Addr) (hE : Errs W ad) (hT : Tab W.heap.size W) (hC : k67.C W A L.length L) (hD : (Kd.int .i64).C W B cuts.length cuts)
    (hs : ∀ x ∈ L, ∀ w ∈ x.1, w.size ≤ 140737488355328) (hlen : L.length * 32 ≤ 140737488351232) :
    Calls Tryd.prog 8 #[.agg #[.slice A L.length c, .slice B cuts.length e, .string tail]] W fun e' w' => e' = .returned (.bool true) ∧ Below W.heap.size W w' := by
  have HE := Aside0.mk hE
  have HT := Lib.hid hT
  have HD := Aside0.mk hD
  obtain ⟨Wb, hWb⟩ : ∃ Wb, Wb = W.alloc (sbox A L.length c B cuts.length e tail) := ⟨_, rfl⟩
  have hzb : Wb.heap.size = W.heap.size + 1 := by rw [hWb]; simp
  have hBb : Below W.heap.size W Wb := by rw [hWb]; exact below_alloc (Below.refl _ _) _
  have hX0 : Wb.heap[W.heap.size]? = some (sbox A L.length c B cuts.length e tail) := by rw [hWb]; exact (MapKept.heap_alloc W _).1
  have hO2 := row_two Wb W.heap.size (W.heap.size + 1) hzb (by omega)
  have hB2 : Below W.heap.size W (wl3 Wb (W.heap.size + 1)) := below_alloc (below_alloc (below_alloc hBb _) _) _
  have hX2 : (wl3 Wb (W.heap.size + 1)).heap[W.heap.size]? = some (sbox A L.length c B cuts.length e tail) := by
    refine ((below_alloc (below_alloc (below_alloc (Below.refl Wb.heap.size Wb) _) _) _).block _ (by omega)).trans hX0
  have x2 : (wl3 Wb (W.heap.size + 1)).cell? ⟨W.heap.size, 0, none⟩ = some (.slice A L.length c) := blk_cell hX2 0
  have hQ := ReadsRow.imp_ (R' := k67.K (wl2 Wb)) hC hB2 (fun _ _ hp => k67.K_below (below_alloc (below_alloc hBb _) _) hp)
  have HO2 := Aside0.mk hO2
  have HB2 := Aside0.mk hB2
  have HQ := Aside0.mk hQ
  have HX2 := Aside0.mk hX2
  have HS := Lib.hid (two_ok L hs)
  have HL2 := Lib.hid (show (twoS ++ L).length = L.length + 2 by simp)
  clear hE hT hC hD hO2 hB2 hQ hX2 hs hX0 hBb
  have HZ := Lib.hid hzb
  clear hzb
  subst hWb
  go_enter Tryd.func8, Tryd.ntmps8
  go_wp2_with ((with_reducible refine gate_builtin (b := .append) (xs := #[.tmp 16, .tmp 18]) rfl ?_); at_builtin; refine OwnRow.append_list (R := k67.K (wl2 (W.alloc (sbox A L.length c B cuts.length e tail)))) (w0 := W) W.heap.size rfl (.tmp 16) (.tmp 18) 62 67 (.agg #[.slice none 0 0, .bool false]) 2 32 rfl Tryd.underlying62 info67 rfl (by decide) (.slice (some ⟨W.heap.size + 1 + 1 + 1, 0, none⟩) 2 2) twoS L A c rfl rfl (fun p cs hp => k67.K_one hp) HO2.out HQ.out HB2.out HB2.out.size (by simp; omega) (by simp; omega) ?_; intro v1 w1 ho1 hb1 hg1; have HO1 := Aside0.mk ho1; have HB1 := Aside0.mk hb1; have HG1 := Aside0.mk hg1; clear ho1 hb1 hg1)
  have e2 : (wl2 (W.alloc (sbox A L.length c B cuts.length e tail))).heap.size = W.heap.size + 1 + 1 + 1 := by simp
  have hb21 : Below (wl2 (W.alloc (sbox A L.length c B cuts.length e tail))).heap.size (wl2 (W.alloc (sbox A L.length c B cuts.length e tail))) w1 :=
    (below_alloc (Below.refl _ _) _).grown HG1.out (by simp) (fun k hk => by simp only [Value.ownBlock, Option.some.injEq] at hk; omega)
  obtain ⟨A1, c1, rfl, hC1⟩ := C67_of_own HO1.out hb21
  have HC1 := Aside0.mk hC1
  have hbx : w1.heap[W.heap.size]? = some (sbox A L.length c B cuts.length e tail) := (HG1.out.block W.heap.size (blk_lt HX2.out) (by simp only [Value.ownBlock, ne_eq, Option.some.injEq]; omega)).trans HX2.out
  have HX := Aside0.mk hbx
  have HS := Lib.hid HS.out
  clear HO1 HO2 HB2 HQ HX2 HG1 hC1 hbx hb21 e2 x2 HZ
  generalize twoS ++ L = M at HC1 HS HL2
  have hM : M.length ≤ 4398046511200 := by have := HL2.out; omega
  go_loopw [4, 5] (fun v4 v5 W' => ∃ i : Nat, v4 = .string (catS M i) ∧ v5 = .int .i64 i ∧ i ≤ M.length ∧ (catS M i).size ≤ 16777216 ∧ Aside0 (Below w1.heap.size w1 W')) (fun _ v5 _ => M.length - (intOf v5).toNat)
  case atStart => exact ⟨0, rfl, rfl, by omega, by show (⟨#[]⟩ : ByteArray).size ≤ _; decide, ⟨Below.refl _ _⟩⟩
  case round =>
    obtain ⟨i, rfl, rfl, hi, hsz, HBr⟩ := hrel
    by_cases hlt : i < M.length
    · have hlt' : (i : Int) < (M.length : Int) := by omega
      obtain ⟨a, B1, e1, rfl, a0, a1, aC⟩ := elem67 (Kd.C_below HC1.out HBr.out) i hlt
      have hsn := Lib.hid (show catS M (i + 1) = catS M i ++ sentB (sx M i) from rfl)
      have hss := sentB_size (sx M i)
      have hws := Lib.hid (HS.out (sx M i) (sx_mem hlt))
      generalize sx M i = y at a0 a1 aC hsn hss hws
      obtain ⟨ws, pl⟩ := y
      dsimp only at a0 a1 aC hws
      obtain ⟨t, ht⟩ : ∃ t, bytesS pl ws = t := ⟨_, rfl⟩
      rw [show sentB (ws, pl) = t from ht] at hsn hss
      have HTT := Lib.hid ht
      have AC := Aside0.mk aC
      clear ht aC
      have hca : ¬ (9223372036854775807 : Int) < (((catS M i).size : Int) + (t.size : Int)) := by omega
      go_wp2_with fail
      go_at_call 26
      refine (bytesOf_walk ws pl B1 e1 wr ad (errs_on HE.out (by exact (HB1.out.trans (HBr.out.mono HB1.out.size)))) (tab_on HT.out (by exact (HB1.out.trans (HBr.out.mono HB1.out.size)))) AC.out hws.out).mono ?_
      rintro _ w2 ⟨rfl, hb2⟩
      rw [HTT.out]
      have HB2 := Aside0.mk (HBr.out.trans (hb2.mono HBr.out.size))
      clear hb2
      by_cases hbig : (catS M (i + 1)).size ≤ 16777216
      · have hbig' : ¬ (16777216 : Int) < (((catS M i).size : Int) + (t.size : Int)) := by rw [hsn.out, ByteArray.size_append] at hbig; omega
        go_wp2_with fail
        go_roundw
        case rel => exact ⟨i + 1, by rw [hsn.out], by go_num, by omega, hbig, HB2⟩
        case measure => simp [intOf]; omega
      · have hbig' : (16777216 : Int) < (((catS M i).size : Int) + (t.size : Int)) := by rw [hsn.out, ByteArray.size_append] at hbig; omega
        go_wp2_with fail
        go_ret
        exact ⟨rfl, HB1.out.trans (HB2.out.mono HB1.out.size)⟩
    · have hlt' : ¬ (i : Int) < (M.length : Int) := by omega
      obtain rfl : i = M.length := by omega
      have hbxr : wr.heap[W.heap.size]? = some (sbox A L.length c B cuts.length e tail) := (HBr.out.block _ (blk_lt HX.out)).trans HX.out
      have x1 : wr.cell? ⟨W.heap.size, 1, none⟩ = some (.slice B cuts.length e) := blk_cell hbxr 1
      have hall := Lib.hid (show outsB .start (catS M M.length) = some (M.map sentW, .start) by
        have := cat_outs M M.length (Nat.le_refl _)
        rwa [List.take_length] at this)
      generalize catS M M.length = S at hsz hall ⊢
      clear hbxr
      go_wp2_with fail
      go_at_call 27
      refine (fed_any ad wr (errs_on HE.out (by exact (HB1.out.trans (HBr.out.mono HB1.out.size)))) S (by omega) cuts B e (Kd.C_below HD.out (by exact (HB1.out.trans (HBr.out.mono HB1.out.size)))) (M.map sentW) hall.out M.length (by simp) (by omega)).mono ?_
      rintro _ w2 ⟨v2, rfl, hr2, hb2⟩
      obtain ⟨A2, c2, rfl⟩ := Kd.R_slice hr2
      have hg2 := (Kd.R_reads' hr2).2.2
      rw [List.length_map] at hg2 ⊢
      have HG2 := Aside0.mk hg2
      have HB2 := Aside0.mk (HBr.out.trans (hb2.mono HBr.out.size))
      clear hr2 hg2 hb2 x1
      go_wp2_with fail
      go_loopw [10] (fun v10 W' => ∃ i : Nat, v10 = .int .i64 i ∧ i ≤ M.length ∧ Aside0 (Below w2.heap.size w2 W')) (fun v10 _ => M.length - (intOf v10).toNat)
      case atStart => exact ⟨0, rfl, by omega, ⟨Below.refl _ _⟩⟩
      case round =>
        obtain ⟨i, rfl, hi, HBs⟩ := hrel
        by_cases hlt : i < M.length
        · have hlt' : (i : Int) < (M.length : Int) := by omega
          obtain ⟨a, B1, e1, rfl, a0, a1, aC⟩ := elem67 (Kd.C_below HC1.out (HB2.out.trans (HBs.out.mono HB2.out.size))) i hlt
          obtain ⟨g, B3, e3, rfl, g0, gC⟩ := elemS (Kd.C_below HG2.out HBs.out) i hlt
          have hws := Lib.hid (HS.out (sx M i) (sx_mem hlt))
          rw [map_at M i hlt] at g0 gC
          generalize sx M i = y at a0 a1 aC hws g0 gC
          obtain ⟨ws, pl⟩ := y
          dsimp only at a0 a1 aC hws
          obtain ⟨tl, ht⟩ : ∃ tl, tidyW pl ws = tl := ⟨_, rfl⟩
          rw [show sentW (ws, pl) = tl from ht] at g0 gC
          have AC := Aside0.mk aC
          have GC := Aside0.mk gC
          have G0 := Aside0.mk g0
          have HTW := Lib.hid (fun (w : World) (h : Kd.string.C w B1 ws.length ws) => (show Calls Tryd.prog 28 #[.agg #[.slice B1 ws.length e1, .bool pl]] w (fun e w' => ∃ v, e = .returned v ∧ Kd.string.R 9 w' w.heap.size (fun _ => True) v tl ∧ Below w.heap.size w w') from ht ▸ tidy_walk ws pl B1 e1 w h hws.out))
          clear ht aC gC
          go_wp2_with fail
          go_region_law (first | (go_simp; go_at_call 28; refine (HTW.out _ (by exact (Kd.C_below AC.out (below_drew (Below.refl _ _))))).mono ?_; rintro _ w4 ⟨v4, rfl, hr4, hb4⟩; obtain ⟨A4, c4, rfl⟩ := Kd.R_slice hr4; have HC4 := Aside0.mk (Kd.R_reads' hr4).2.2; have HC3 := Aside0.mk (show Kd.string.C w4 B3 tl.length tl from Kd.C_below GC.out (show Below wr.heap.size wr w4 from (below_drew (Below.refl _ _)).trans hb4)); have g4 := pw_cell_below hb4 (show wr.drew.cell? _ = _ from G0.out); have HB4 := Aside0.mk (HBs.out.trans (show Below w2.heap.size wr w4 from (below_drew (Below.refl _ _)).trans (hb4.mono HBs.out.size))); clear hr4 hb4) | (go_simp; go_at_call 21; refine (Rf.same_strings tl _ _ _ _ _ (by exact HC3.out) (by exact HC4.out)).mono ?_; rintro _ w5 ⟨rfl, hb5⟩; have HB5 := Aside0.mk (HB4.out.trans (hb5.mono HB4.out.size)); clear hb5))
          all_goals
            go_wp2_with fail
            exact ⟨⟨i + 1, by go_num, by omega, HB5⟩, by simp [intOf]; omega⟩
        · have hlt' : ¬ (i : Int) < (M.length : Int) := by omega
          go_wp2_with fail
          go_ret
          exact ⟨rfl, HB1.out.trans ((HB2.out.trans (HBs.out.mono HB2.out.size)).mono HB1.out.size)⟩
theorem opens67 (n : Nat) : OpensAt Tryd.prog n 67 k67 (fun x => ∀ w ∈ x.1, w.size ≤ reachBytes) := by
  have hs : OpensAt Tryd.prog n 67 k67 _ := opens_struct Tryd.underlying67 (fun m hm => by
    rw [show Tryd.prog.cellsOf 67 = 2 by kernel_rfl]
    exact opensF_cons (off' := 1) rfl (by kernel_rfl) (opens_slice (d := Kd.string) Tryd.underlying45 (by kernel_rfl) (fun k _ => opens_string Tryd.underlying9)) (opensF_last rfl (by kernel_rfl) (opens_bool Tryd.underlying4)))
  exact opens_mono hs (fun _ h => h.1.2.2)
theorem opens65 (n : Nat) : OpensAt Tryd.prog n 65 (Kd.pair (Kd.slice 67 k67) (Kd.pair (Kd.slice 3 (Kd.int .i64)) Kd.string))
    (fun x => (x.1.length * 32 ≤ 140737488351232 ∧ ∀ y ∈ x.1, ∀ w ∈ y.1, w.size ≤ 140737488355328)) := by
  have hs : OpensAt Tryd.prog n 65 (Kd.pair (Kd.slice 67 k67) (Kd.pair (Kd.slice 3 (Kd.int .i64)) Kd.string)) _ := opens_struct Tryd.underlying65 (fun m hm => by
    rw [show Tryd.prog.cellsOf 65 = 3 by kernel_rfl]
    exact opensF_cons (off' := 1) rfl (by kernel_rfl) (opens_slice (d := k67) Tryd.underlying62 (by kernel_rfl) (fun k _ => opens67 k)) (opensF_cons (off' := 2) rfl (by kernel_rfl) (opens_slice (d := Kd.int .i64) Tryd.underlying63 (by kernel_rfl) (fun k _ => opens_int Tryd.underlying3)) (opensF_last rfl (by kernel_rfl) (opens_string Tryd.underlying9))))
  refine opens_mono hs (fun x h => ⟨?_, fun y hy w hw => Nat.le_trans (h.1.2.2 y hy w hw) (by decide)⟩)
  have := h.1.1
  rw [show Tryd.prog.bytesOf 67 = 32 by kernel_rfl] at this
  exact this
end Go.Proofs.YtbdfjiobegadjaaDoor.Sm
