/- The walks of wire's taker: a list of answers, and the answer whole. -/
import Derived.Test.YtbdfjiobegadjaaDoorTaker7
import Derived.Deep.RegionLaw
import Derived.Deep.AppendLies
namespace Go.Proofs.YtbdfjiobegadjaaDoor.Tk
open Go Go.RowKit Go.Proofs.YtbdfjiobegadjaaDoor.PWireMemory Go.Proofs.YtbdfjiobegadjaaDoorW.PrintWords Go.Proofs.YtbdfjiobegadjaaDoorW.PrintLast Go.Proofs.YtbdfjiobegadjaaDoorW.PrintMore
set_option linter.unusedVariables false
set_option linter.unusedSectionVars false
set_option linter.unusedSimpArgs false
inductive LS (b : Nat) (s : ByteArray) (ad : Nat → Addr) (R : Res S24) (f : Nat → Res S24) (n : Nat) (xs : List S24) (W : World) : Prop
  | good (j : Nat) (hj : j ≤ s.size) (h : Good W b s j) (e : (itemsS f n j).map (fun l => (⟨6, 0, ⟨#[]⟩, xs ++ l⟩ : S24)) = R) : LS b s ad R f n xs W
  | bad (k : Nat) (h : Bad W b ad k) (e : R = .no k) : LS b s ad R f n xs W
def cntS (s : ByteArray) (i : Nat) : Res Nat := if s.size ≤ i then .no 3 else digs s 2000 (s.size - i) 0 true i
theorem cntS_le {s : ByteArray} {i a j : Nat} (h : cntS s i = .ok a j) : j ≤ s.size := by
  unfold cntS at h
  split at h
  · cases h
  · exact digs_le h (by omega)
theorem listS_eq (s : ByteArray) (f : Nat → Res S24) (i : Nat) : listS s f i = match cntS s i with | .no k => .no k | .ok n j => (itemsS f n j).map fun l => ⟨6, 0, ⟨#[]⟩, l⟩ := by
  unfold listS cntS
  split <;> rfl
/-- The state at the head of each round: the result's block is the first that is new, g the list's. -/
structure LI (b : Nat) (s : ByteArray) (ad : Nat → Addr) (R : Res S24) (f : Nat → Res S24) (W0 : World) (g n : Nat) (xs : List S24) (vl : Value) (W : World) : Prop where
  few : n + xs.length ≤ 2000
  far : W0.heap.size < g
  st : LS b s ad R f n xs W
  only : Only b W0 W
  res : RAt W W0.heap.size (.int .i64 0) (.int .i64 0) (.string ⟨#[]⟩) (.slice none 0 0)
  own : RAt W g (.int .i64 6) (.int .i64 0) (.string ⟨#[]⟩) vl
  row : k24.R 24 W W0.heap.size (fun k => k ≠ g ∧ k ≠ W0.heap.size) vl xs
theorem count_L (W : World) (N b : Nat) (s : ByteArray) (ad : Nat → Addr) (R : Res Nat) (c : Int) (hs : s.size ≤ 140738562097152) (hN : N ≤ b) (hE : EN N W ad)
    (hc0 : 0 ≤ c) (hc1 : c ≤ 255) (h : Cnt b s ad 2000 R 0 0 c W) : Calls Tryd.prog 54 #[.pointer (some ⟨b, 0, none⟩), .int .u8 c, .int .u64 2000] W (CountOk b s ad 2000 R W) :=
  count_any W N b s ad 2000 R c hs (by decide) (by decide) hN hE hc0 hc1 h
theorem R_only {α : Type} {d : Kd α} {e b base : Nat} {W W' : World} {ok : Nat → Prop} {v : Value} {xs : List α} (h : d.R e W base ok v xs) (ho : Only b W W') (hb : b < base) : d.R e W' base ok v xs :=
  Kd.R_mono (Kd.R_keep (Kd.R_bound h) ho.keepBut (fun k hk => by have := hk.2.1; omega)) (fun k hk => hk.1)
theorem M_only {α : Type} {d : Kd α} {b base : Nat} {W W' : World} {ok : Nat → Prop} {x : α} {cs : List Value} (h : d.M W base ok x cs) (ho : Only b W W') (hb : b < base) : d.M W' base ok x cs :=
  d.M_mono (fun k hk => hk.1) (Kd.M_keep (d.M_bound h) ho.keepBut (fun k hk => by have := hk.2.1; omega))
theorem ls_start {b : Nat} {s : ByteArray} {ad : Nat → Addr} {R : Res S24} {f : Nat → Res S24} {i v : Nat} {W : World} (e : listS s f i = R) (h : Leaves W b s ad (cntS s i)) (hv : ∀ a j, cntS s i = .ok a j → v = a) : LS b s ad R f v [] W := by
  rw [listS_eq] at e
  cases hx : cntS s i with
  | ok n j =>
    rw [hx] at e h
    obtain rfl := hv n j hx
    exact .good j (cntS_le hx) h (by simpa using e)
  | no k =>
    rw [hx] at e h
    exact .bad k h e.symm
theorem LI.next {b : Nat} {s : ByteArray} {ad : Nat → Addr} {R : Res S24} {f : Nat → Res S24} {W0 : World} {g n : Nat} {xs : List S24} {vl : Value} {W : World} (h : LI b s ad R f W0 g n xs vl W) (hb : b < W0.heap.size) {W' : World} (ho : Only b W W') :
    RAt W' W0.heap.size (.int .i64 0) (.int .i64 0) (.string ⟨#[]⟩) (.slice none 0 0) ∧ RAt W' g (.int .i64 6) (.int .i64 0) (.string ⟨#[]⟩) vl ∧ k24.R 24 W' W0.heap.size (fun k => k ≠ g ∧ k ≠ W0.heap.size) vl xs :=
  ⟨h.res.only ho (by omega), h.own.only ho (by have := h.far; omega), R_only h.row ho hb⟩
theorem LI.result {b : Nat} {s : ByteArray} {ad : Nat → Addr} {R : Res S24} {f : Nat → Res S24} {W0 : World} {g n : Nat} {xs : List S24} {vl : Value} {W : World} (h : LI b s ad R f W0 g n xs vl W) (c0 c1 c2 c3 : Value) :
    k24.M (put4 W W0.heap.size c0 c1 c2 c3) W0.heap.size (fun _ => True) ⟨6, 0, ⟨#[]⟩, xs⟩ [.int .i64 6, .int .i64 0, .string ⟨#[]⟩, vl] :=
  k24_mkM _ _ _ ⟨6, 0, ⟨#[]⟩, xs⟩ (Kd.R_mono (Kd.R_keep h.row (put4_keep W _ c0 c1 c2 c3) (fun k hk => hk.2)) (fun _ _ => trivial))
theorem LI.grow {b : Nat} {s : ByteArray} {ad : Nat → Addr} {R : Res S24} {f : Nat → Res S24} {W0 : World} {g n : Nat} {xs : List S24} {vl : Value} {W w4 w5 : World} (h : LI b s ad R f W0 g n xs vl W) (hb : b < W0.heap.size) (ho : Only b W w4) (hg5 : w4.grownBy w5 vl.ownBlock) :
    RAt w5 g (.int .i64 6) (.int .i64 0) (.string ⟨#[]⟩) vl := by
  obtain ⟨h1, h2, h3⟩ := h.next hb ho
  exact blk_grown h2 hg5 (fun e => (h3.1 g e.symm).1 rfl)
theorem LI.elem {b : Nat} {s : ByteArray} {ad : Nat → Addr} {R : Res S24} {f : Nat → Res S24} {W0 : World} {g n : Nat} {xs : List S24} {vl : Value} {W w4 : World} (h : LI b s ad R f W0 g n xs vl W) (hb : b < W0.heap.size) (ho : Only b W w4) {x : S24} {cs : List Value} (hM : k24.M w4 W.drew.heap.size (fun _ => True) x cs) :
    k24.M w4 W0.heap.size (fun k => (k ≠ g ∧ k ≠ W0.heap.size) ∧ some k ≠ vl.ownBlock) x cs := by
  have hgl := blk_lt h.own
  have hfar := h.far
  have hM' : k24.M w4 W.heap.size (fun _ => True) x cs := hM
  refine k24.M_lower (by omega) (k24.M_mono (fun k hk => ?_) (k24.M_bound hM'))
  obtain ⟨_, h1, h2, _⟩ := hk
  refine ⟨⟨by omega, by omega⟩, fun e => ?_⟩
  obtain ⟨_, inner, hown, _⟩ := h.row
  have := own_lt hown k e.symm
  omega
theorem LI.step {b : Nat} {s : ByteArray} {ad : Nat → Addr} {R : Res S24} {f : Nat → Res S24} {W0 : World} {g n j : Nat} {xs : List S24} {vl v1 : Value} {W w4 w5 : World} {x : S24} (h : LI b s ad R f W0 g (n + 1) xs vl W) (hj : j ≤ s.size) (e : (itemsS f (n + 1) j).map (fun l => (⟨6, 0, ⟨#[]⟩, xs ++ l⟩ : S24)) = R)
    (hb : b < W0.heap.size) (ho : Only b W w4) (hxr : ∀ a j', f j = .ok a j' → x = a) (ha4 : Leaves w4 b s ad (f j)) (hf : ∀ a j', f j = .ok a j' → j ≤ s.size → j' ≤ s.size)
    (ho5 : k24.R 24 w5 W0.heap.size (fun k => k ≠ g ∧ k ≠ W0.heap.size) v1 (xs ++ [x])) (hb5 : Below W0.heap.size w4 w5) (hg5 : w4.grownBy w5 vl.ownBlock) :
    LI b s ad R f W0 g n (xs ++ [x]) v1 (w5.setCell ⟨g, 3, none⟩ v1) := by
  obtain ⟨h1, h2, h3⟩ := h.next hb ho
  have hfar := h.far
  have hg := blk_grown h2 hg5 (fun e => (h3.1 g e.symm).1 rfl)
  have hr := blk_grown h1 hg5 (fun e => (h3.1 _ e.symm).2 rfl)
  have hat : ∀ {r : ByteArray} {v : Value}, At w4 b r v → At (w5.setCell ⟨g, 3, none⟩ v1) b r v := fun hh =>
    (Below.heap_setCell w5 ⟨g, 3, none⟩ v1 b (show b ≠ g by omega)).trans ((hb5.block b hb).trans hh)
  refine ⟨by have := h.few; simp; omega, hfar, ?_, (h.only.trans ho).of_below_lt (Below.trans hb5 ((Below.refl _ _).setCell (p := ⟨g, 3, none⟩) (show W0.heap.size ≤ g by omega) _)) (Nat.le_refl _), ?_, blk_set hg 3 v1, ?_⟩
  · rw [itemsS] at e
    cases hx : f j with
    | no k =>
      rw [hx] at e ha4
      obtain ⟨r, ha4⟩ := ha4
      exact .bad k ⟨r, hat ha4⟩ e.symm
    | ok y j' =>
      rw [hx] at e ha4
      obtain rfl := hxr y j' hx
      refine .good j' (hf x j' hx hj) (hat ha4) ?_
      rw [← e]
      cases hy : itemsS f n j' with
      | ok l k => simp [Res.map, hy]
      | no k => simp [Res.map, hy]
  · exact (Below.heap_setCell w5 ⟨g, 3, none⟩ v1 _ (show W0.heap.size ≠ g by omega)).trans hr
  · exact Kd.R_far ho5 (p := ⟨g, 3, none⟩) (fun k hk => hk.1) v1
set_option maxHeartbeats 1000000 in
set_option maxRecDepth 100000 in
theorem list_loop (N b : Nat) (s : ByteArray) (ad : Nat → Addr) (R : Res S24) (hs : s.size ≤ 140738562097152) (hN : N ≤ b) (f : Nat → Res S24) (lists : Nat) (hl : lists < 4)
    (ih : ∀ (W : World) (j : Nat) (R : Res S24), EN N W ad → j ≤ s.size → Ahead b s ad j (f j) R W → Calls Tryd.prog 33 #[.pointer (some ⟨b, 0, none⟩), .int .i64 ((lists : Int) + 1)] W (AnsOk b s ad R W))
    (hf : ∀ j a j', f j = .ok a j' → j ≤ s.size → j' ≤ s.size)
    (W : World) (hE : EN N W ad) (i : Nat) (hi : i < s.size) (h : Good W b s i) (hc : ((s[i]).toNat : Int) = 42) (e : listS s f (i + 1) = R) :
    Calls Tryd.prog 33 #[.pointer (some ⟨b, 0, none⟩), .int .i64 lists] W (AnsOk b s ad R W) := by
  have hbl := blk_lt h
  have HE := Aside0.mk hE
  have H := Aside0.mk h
  clear h hE
  have HO0 := Aside0.mk ((Only.refl b W).alloc zero4)
  have hl4 : ¬ (4 : Int) ≤ lists := by omega
  have HIH := Lib.hid ih
  have HF := Lib.hid hf
  have HEQ := Aside0.mk e
  clear ih hf e
  go_enter Tryd.func33, Tryd.ntmps33
  go_wp2_with fail
  go_at_call 50; refine (byte_some _ b s i hi (by exact (good_alloc_at H.out _))).mono ?_; rintro e w1 ⟨rfl, ha1, ho1⟩; have HA1 := Aside0.mk ha1; have HO1 := Aside0.mk (HO0.out.trans ho1); have HR1 := Aside0.mk ((ralloc W).only ho1 (by omega)); clear ha1 ho1
  go_wp2_with fail
  have hb1 : b < w1.heap.size := Nat.lt_of_lt_of_le hbl HO1.out.size
  have HAL := Aside0.mk ((Only.refl b w1).alloc (.cells #[.int .i64 6, .int .i64 0, .string ⟨#[]⟩, .slice none 0 0] 24))
  have HRL := Aside0.mk (show RAt (w1.alloc (.cells #[.int .i64 6, .int .i64 0, .string ⟨#[]⟩, .slice none 0 0] 24)) w1.heap.size (.int .i64 6) (.int .i64 0) (.string ⟨#[]⟩) (.slice none 0 0) from (MapKept.heap_alloc w1 _).1)
  by_cases hi2 : i + 1 < s.size
  have hr2 := (s[i + 1]).toNat_lt
  have HB := Aside0.mk (bt_nat s (i + 1) hi2)
  go_at_call 50; refine (byte_some _ b s (i + 1) hi2 (by exact (good_alloc_at HA1.out _))).mono ?_; rintro e w2 ⟨rfl, ha2, ho2⟩; have HA2 := Aside0.mk ha2; have HO2 := Aside0.mk (HAL.out.trans ho2); have HR2 := Aside0.mk (HRL.out.only ho2 (by omega)); clear ha2 ho2
  go_wp2_with fail
  go_at_call 54; refine (count_L _ N b s ad (cntS s (i + 1)) _ hs hN (HE.out.only (HO1.out.trans HO2.out) hN (Nat.le_of_lt hbl)) (by omega) (by omega) (.good (i + 1) hi2 (by omega) HB.out.symm HA2.out (by unfold cntS; rw [if_neg (by omega)]; rfl))).mono ?_; rintro e w3 ⟨⟨v, hv, rfl, hvr⟩, ha3, ho3⟩
  have HLI := Aside0.mk (show LI b s ad R f W w1.heap.size v [] (.slice none 0 0) w3 from ⟨by simpa using hv, blk_lt HR1.out, ls_start HEQ.out ha3 hvr, (HO1.out.trans HO2.out).trans ho3, HR1.out.only (HO2.out.trans ho3) (by omega), HR2.out.only ho3 (by omega), Kd.R_nil _ _ _ _ _⟩)
  clear hv hvr ha3 ho3 HB hr2
  go_wp2_with fail
  rotate_left
  have HI2 := Aside0.mk hi2
  clear hi2
  go_at_call 50; refine (byte_end _ b s (i + 1) HI2.out (by exact (good_alloc_at HA1.out _)) ad (by exact ((HE.out.only (HO1.out.trans HAL.out) hN (Nat.le_of_lt hbl)).errs.cell 3 (by omega)))).mono ?_; rintro e w2 ⟨rfl, ha2, ho2⟩; have HA2 := Aside0.mk ha2; have HO2 := Aside0.mk (HAL.out.trans ho2); have HR2 := Aside0.mk (HRL.out.only ho2 (by omega)); clear ha2 ho2
  go_wp2_with fail
  go_at_call 54; refine (count_L _ N b s ad (cntS s (i + 1)) _ hs hN (HE.out.only (HO1.out.trans HO2.out) hN (Nat.le_of_lt hbl)) (by omega) (by omega) (.bad 3 ⟨_, HA2.out⟩ (by omega) (by unfold cntS; rw [if_pos (by have := HI2.out; omega)]))).mono ?_; rintro e w3 ⟨⟨v, hv, rfl, hvr⟩, ha3, ho3⟩
  have HLI := Aside0.mk (show LI b s ad R f W w1.heap.size v [] (.slice none 0 0) w3 from ⟨by simpa using hv, blk_lt HR1.out, ls_start HEQ.out ha3 hvr, (HO1.out.trans HO2.out).trans ho3, HR1.out.only (HO2.out.trans ho3) (by omega), HR2.out.only ho3 (by omega), Kd.R_nil _ _ _ _ _⟩)
  clear hv hvr ha3 ho3 HI2
  go_wp2_with fail
  all_goals
    go_loopw [7] (fun v7 W' => ∃ (n : Nat) (xs : List S24) (vl : Value), v7 = .int .u64 n ∧ Aside0 (LI b s ad R f W w1.heap.size n xs vl W')) (fun v7 _ => (intOf v7).toNat)
    case atStart => exact ⟨v, [], _, rfl, HLI⟩
    case round =>
      clear HLI
      obtain ⟨n, xs, vl, rfl, HLI⟩ := hrel
      obtain ⟨A, cp, rfl⟩ := Kd.R_slice HLI.out.row
      obtain ⟨⟨q0, q1, q2, q3⟩, qf0, qf1, qf2, qf3⟩ := HLI.out.own.cells
      obtain ⟨⟨m0, m1, m2, m3⟩, n0, n1, n2, n3⟩ := HLI.out.res.cells
      have hfew := HLI.out.few
      by_cases hz : n = 0
      · subst hz
        cases HLI.out.st with
        | good j hj h e =>
          obtain ⟨g0, g1, _, _⟩ := At.cells h
          have HG := Aside0.mk h
          have HR := Aside0.mk e.symm
          clear h e
          go_wp2_with fail
          refine bodyPost_ret (v := .agg #[.int .i64 6, .int .i64 0, .string ⟨#[]⟩, .slice A xs.length cp]) (by simp [results, Tryd.results33, go_sem, m0, m1, m2, m3, n0, n1, n2, n3]) rfl ⟨⟨⟨6, 0, ⟨#[]⟩, xs⟩, _, _, _, _, rfl, HLI.out.result _ _ _ _, fun a j he => ?_⟩, ?_, ?_⟩
          · rw [HR.out, itemsS] at he
            simp only [Res.map, List.append_nil, Res.ok.injEq] at he
            exact he.1
          · rw [HR.out, itemsS]; exact put4_leaves _ _ _ _ (R := Res.ok (α := S24) _ j) HG.out (by omega)
          · exact put4_only _ _ _ _ HLI.out.only
        | bad k h e =>
          obtain ⟨r, h⟩ := h
          obtain ⟨g0, g1, _, _⟩ := At.cells h
          have HG := Aside0.mk h
          have HR := Aside0.mk e
          clear h e
          go_wp2_with fail
          refine bodyPost_ret (v := .agg #[.int .i64 6, .int .i64 0, .string ⟨#[]⟩, .slice A xs.length cp]) (by simp [results, Tryd.results33, go_sem, m0, m1, m2, m3, n0, n1, n2, n3]) rfl ⟨⟨⟨6, 0, ⟨#[]⟩, xs⟩, _, _, _, _, rfl, HLI.out.result _ _ _ _, fun a j he => ?_⟩, ?_, ?_⟩
          · rw [HR.out] at he; cases he
          · rw [HR.out]; exact put4_leaves _ _ _ _ (noS k HG.out) (by omega)
          · exact put4_only _ _ _ _ HLI.out.only
      · have hz' : (0 : Int) < (n : Int) := by omega
        cases HLI.out.st with
        | bad k h e =>
          obtain ⟨r, h⟩ := h
          obtain ⟨g0, g1, _, _⟩ := At.cells h
          have HG := Aside0.mk h
          have HR := Aside0.mk e
          clear h e hz
          go_wp2_with fail
          refine bodyPost_ret (v := .agg #[.int .i64 6, .int .i64 0, .string ⟨#[]⟩, .slice A xs.length cp]) (by simp [results, Tryd.results33, go_sem, m0, m1, m2, m3, n0, n1, n2, n3]) rfl ⟨⟨⟨6, 0, ⟨#[]⟩, xs⟩, _, _, _, _, rfl, HLI.out.result _ _ _ _, fun a j he => ?_⟩, ?_, ?_⟩
          · rw [HR.out] at he; cases he
          · rw [HR.out]; exact put4_leaves _ _ _ _ (noS k HG.out) (by omega)
          · exact put4_only _ _ _ _ HLI.out.only
        | good j hj h e =>
          obtain ⟨n, rfl⟩ : ∃ m, n = m + 1 := ⟨n - 1, by omega⟩
          obtain ⟨g0, g1, _, _⟩ := At.cells h
          have HG := Aside0.mk h
          have HE2 := Aside0.mk e
          have hltg := blk_lt HLI.out.own
          clear h e hz m0 m1 m2 m3 n0 n1 n2 n3 q0 q1 q2 qf0 qf1 qf2
          go_wp2_with fail
          have hsum : IntKind.i64.wrap ((lists : Int) + 1) = (lists : Int) + 1 := IntWalk.i64_in _ (by omega)
          have HL := Lib.hid (fun (w4 : World) (ho : Only b wr w4) => HLI.out.next hbl ho)
          go_region_law (first | (go_simp; go_at_call 33; refine (HIH.out _ j (f j) (by exact (HE.out.only HLI.out.only.drew hN (Nat.le_of_lt hbl))) hj (by exact (.inl ⟨HG.out, rfl⟩))).mono ?_; rintro e w4 ⟨⟨x, c0, c1, c2, c3, rfl, hM, hxr⟩, ha4, ho4⟩; obtain ⟨A3, cp3, hcs⟩ := M_form hM; simp only [List.cons.injEq, and_true] at hcs; obtain ⟨rfl, rfl, rfl, rfl⟩ := hcs; have HO4 := Aside0.mk (Only.from_drew ho4); obtain ⟨⟨z0, z1, z2, z3⟩, zf0, zf1, zf2, zf3⟩ := (HL.out w4 HO4.out).2.1.cells; have zlt : w1.heap.size < w4.heap.size := blk_lt (HL.out w4 HO4.out).2.1; have HA4 := Aside0.mk ha4; have HXR := Aside0.mk hxr; have HM := Aside0.mk (HLI.out.elem hbl HO4.out hM); clear hM hxr ha4 ho4 z0 z1 z2 zf0 zf1 zf2) | (refine Kd.R_append_step k24 (w0 := w4) W.heap.size rfl (.tmp 51) (.tmp 56) 22 24 (.agg #[.int .i64 0, .int .i64 0, .string ⟨#[]⟩, .slice none 0 0]) 56 rfl Tryd.underlying22 info24 rfl (by decide) (by omega) (.slice A xs.length cp) xs x [.int .i64 x.f0, .int .i64 x.f1, .string x.f2, .slice A3 x.f3.length cp3] (fun k => k ≠ w1.heap.size ∧ k ≠ W.heap.size) (fun k => (k ≠ w1.heap.size ∧ k ≠ W.heap.size) ∧ some k ≠ (Value.slice A xs.length cp).ownBlock) rfl rfl HM.out (fun k hk => hk) (by have := HLI.out.far; have := blk_lt (HL.out w4 HO4.out).2.1; intro k hk; constructor <;> omega) (HL.out w4 HO4.out).2.2 (Below.refl _ _) (by have := HLI.out.far; have := blk_lt (HL.out w4 HO4.out).2.1; omega) (by omega) ?_; intro v5 w5 ho5 hb5 hg5 hat5; obtain ⟨A5, cp5, e5⟩ := Kd.R_slice ho5; subst e5; have HS := Aside0.mk (HLI.out.step hj HE2.out hbl HO4.out HXR.out HA4.out (HF.out j) ho5 hb5 hg5); obtain ⟨⟨y0, y1, y2, y3⟩, yf0, yf1, yf2, yf3⟩ := (HLI.out.grow hbl HO4.out hg5).cells; clear ho5 hb5 hg5 hat5 y0 y1 y2 yf0 yf1 yf2))
          all_goals
            go_wp2_with fail
            go_roundw
            case rel => exact ⟨n, xs ++ [x], .slice A5 (xs.length + 1) cp5, by go_num, ⟨by have := HS.out; simpa using this⟩⟩
            case measure => simp [intOf]
theorem lin_le {s : ByteArray} : ∀ {f m i a j : Nat}, lin s f m i = .ok a j → i + f = s.size → j ≤ s.size
  | 0, _, _, _, _, h, _ => by cases h
  | f + 1, m, i, a, j, h, hf => by
    rw [lin] at h
    split at h
    · obtain ⟨_, u, hu⟩ := as_ok h
      exact (expect_le hu (by omega)).2
    · split at h
      · cases h
      · exact lin_le h (by omega)
theorem numS_le {s : ByteArray} {i : Nat} {a : Int} {j : Nat} (h : numS s i = .ok a j) : j ≤ s.size := by
  unfold numS at h
  split at h
  · cases h
  · split at h
    · obtain ⟨x, hx, _⟩ := map_ok h
      exact digs_le hx (by omega)
    · split at h
      · cases h
      · split at h
        · cases h
        · obtain ⟨x, hx, _⟩ := map_ok h
          exact digs_le hx (by omega)
theorem bulkS_le {s : ByteArray} {i : Nat} {a : S24} {j : Nat} (h : bulkS s i = .ok a j) : j ≤ s.size := by
  unfold bulkS at h
  split at h
  · cases h
  · split at h
    · obtain ⟨_, u, hu⟩ := as_ok h
      exact (expect_le hu (by omega)).2
    · split at h
      · cases h
      · rename_i n j' hd
        have := digs_le hd (by omega)
        split at h
        · cases h
        · obtain ⟨_, u, hu⟩ := as_ok h
          exact (expect_le hu (by omega)).2
theorem itemsS_le {s : ByteArray} {f : Nat → Res S24} (hf : ∀ j a j', f j = .ok a j' → j ≤ s.size → j' ≤ s.size) : ∀ {n j j' : Nat} {l : List S24}, itemsS f n j = .ok l j' → j ≤ s.size → j' ≤ s.size
  | 0, j, j', l, h, hj => by simp only [itemsS, Res.ok.injEq] at h; omega
  | n + 1, j, j', l, h, hj => by
    rw [itemsS] at h
    split at h
    · cases h
    · rename_i x j2 hx
      obtain ⟨y, hy, _⟩ := map_ok h
      exact itemsS_le hf hy (hf _ _ _ hx hj)
theorem listS_le {s : ByteArray} {f : Nat → Res S24} (hf : ∀ j a j', f j = .ok a j' → j ≤ s.size → j' ≤ s.size) {i j : Nat} {a : S24} (h : listS s f i = .ok a j) : j ≤ s.size := by
  rw [listS_eq] at h
  split at h
  · cases h
  · rename_i n j' hc
    obtain ⟨y, hy, _⟩ := map_ok h
    exact itemsS_le hf hy (cntS_le hc)
theorem headS_le {s : ByteArray} {f : Nat → Res S24} (hf : ∀ j a j', f j = .ok a j' → j' ≤ s.size) {i j : Nat} {a : S24} (h : headS s f i = .ok a j) : j ≤ s.size := by
  unfold headS at h
  split at h
  · cases h
  · split at h
    · obtain ⟨y, hy, _⟩ := map_ok h
      exact lin_le hy (by omega)
    · split at h
      · obtain ⟨y, hy, _⟩ := map_ok h
        exact lin_le hy (by omega)
      · split at h
        · obtain ⟨y, hy, _⟩ := map_ok h
          exact numS_le hy
        · split at h
          · exact bulkS_le h
          · split at h
            · exact hf _ _ _ h
            · cases h
theorem ansS_le {s : ByteArray} : ∀ {d j : Nat} {a : S24} {j' : Nat}, ansS s d j = .ok a j' → j' ≤ s.size
  | 0, j, a, j', h => headS_le (fun _ _ _ h => by cases h) h
  | d + 1, j, a, j', h => headS_le (fun _ _ _ h => listS_le (fun _ _ _ h _ => ansS_le h) h) h
theorem ans_head (N b : Nat) (s : ByteArray) (ad : Nat → Addr) (hs : s.size ≤ 140738562097152) (hN : N ≤ b) (f : Nat → Res S24) (lists : Nat)
    (hlist : ∀ (W : World) (i : Nat) (hi : i < s.size) (R : Res S24), EN N W ad → Good W b s i → ((s[i]).toNat : Int) = 42 → f (i + 1) = R → Calls Tryd.prog 33 #[.pointer (some ⟨b, 0, none⟩), .int .i64 lists] W (AnsOk b s ad R W))
    (W : World) (i : Nat) (R : Res S24) (hE : EN N W ad) (h : Ahead b s ad i (headS s f i) R W) : Calls Tryd.prog 33 #[.pointer (some ⟨b, 0, none⟩), .int .i64 lists] W (AnsOk b s ad R W) := by
  rcases h with ⟨h, e⟩ | ⟨k, h, e⟩
  · unfold headS at e
    by_cases hi : s.size ≤ i
    · rw [if_pos hi] at e
      exact ans_end W N b s ad i R hs hN hE lists hi h e.symm
    · have hi' : i < s.size := by omega
      rw [if_neg hi, bt_nat s i hi'] at e
      by_cases c43 : ((s[i]).toNat : Int) = 43
      · rw [if_pos c43] at e
        exact ans_line1 W N b s ad i R hs hN hE lists hi' h c43 e
      · rw [if_neg c43] at e
        by_cases c45 : ((s[i]).toNat : Int) = 45
        · rw [if_pos c45] at e
          exact ans_line2 W N b s ad i R hs hN hE lists hi' h c45 e
        · rw [if_neg c45] at e
          by_cases c58 : ((s[i]).toNat : Int) = 58
          · rw [if_pos c58] at e
            exact ans_num W N b s ad i R hs hN hE lists hi' h c58 e
          · rw [if_neg c58] at e
            by_cases c36 : ((s[i]).toNat : Int) = 36
            · rw [if_pos c36] at e
              exact ans_bulk W N b s ad i R hs hN hE lists hi' h c36 e
            · rw [if_neg c36] at e
              by_cases c42 : ((s[i]).toNat : Int) = 42
              · rw [if_pos c42] at e
                exact hlist W i hi' R hE h c42 e
              · rw [if_neg c42] at e
                exact ans_wrong W N b s ad i R hs hN hE lists hi' h c43 c45 c58 c36 (.inl c42) e.symm
  · exact ans_bad W N b s ad R hs hN hE lists k h e
theorem ans_any (N b : Nat) (s : ByteArray) (ad : Nat → Addr) (hs : s.size ≤ 140738562097152) (hN : N ≤ b) : ∀ (d lists : Nat), lists + d = 4 →
    ∀ (W : World) (i : Nat) (R : Res S24), EN N W ad → Ahead b s ad i (ansS s d i) R W → Calls Tryd.prog 33 #[.pointer (some ⟨b, 0, none⟩), .int .i64 lists] W (AnsOk b s ad R W)
  | 0, lists, hl, W, i, R, hE, h => by
    refine ans_head N b s ad hs hN (fun _ => .no 1) lists (fun W i hi R hE h c42 e => ?_) W i R hE h
    exact ans_wrong W N b s ad i R hs hN hE lists hi h (by omega) (by omega) (by omega) (by omega) (.inr (by omega)) e.symm
  | d + 1, lists, hl, W, i, R, hE, h => by
    refine ans_head N b s ad hs hN (listS s (ansS s d)) lists (fun W i hi R hE h c42 e => ?_) W i R hE h
    refine list_loop N b s ad R hs hN (ansS s d) lists (by omega) (fun W j R hE _ h => ?_) (fun j a j' h _ => ansS_le h) W hE i hi h c42 e
    exact ans_any N b s ad hs hN d (lists + 1) (by omega) W j R hE h
end Go.Proofs.YtbdfjiobegadjaaDoor.Tk
