/- The walks of the document's place: a list of answers, and the answer whole. -/
import Derived.Test.YtbdfjiobegadjaaDoorPlace6
namespace Go.Proofs.YtbdfjiobegadjaaDoor.Pl
open Go Go.RowKit Go.Proofs.YtbdfjiobegadjaaDoor.Tk Go.Proofs.YtbdfjiobegadjaaDoor.PWireMemory Go.Proofs.YtbdfjiobegadjaaDoorW.PrintWords Go.Proofs.YtbdfjiobegadjaaDoorW.PrintLast Go.Proofs.YtbdfjiobegadjaaDoorW.PrintMore
set_option linter.unusedVariables false
set_option linter.unusedSectionVars false
set_option linter.unusedSimpArgs false
inductive PLS (b : Nat) (s : ByteArray) (R : Res S24) (f : Nat → Res S24) (n : Nat) (xs : List S24) (W : World) : Prop
  | good (j : Nat) (hj : j ≤ s.size) (h : PGood W b s j) (e : (itemsS f n j).map (fun l => (⟨6, 0, ⟨#[]⟩, xs ++ l⟩ : S24)) = R) : PLS b s R f n xs W
  | bad (k : Nat) (h : PBad W b k) (e : R = .no k) : PLS b s R f n xs W
/-- The state at the head of each round: the result's block is the first that is new, g the list's. -/
structure PLI (b : Nat) (s : ByteArray) (R : Res S24) (f : Nat → Res S24) (W0 : World) (g n : Nat) (xs : List S24) (vl : Value) (W : World) : Prop where
  few : n + xs.length ≤ 2000
  far : W0.heap.size < g
  st : PLS b s R f n xs W
  only : Only b W0 W
  res : RAt W W0.heap.size (.int .i64 0) (.int .i64 0) (.string ⟨#[]⟩) (.slice none 0 0)
  own : RAt W g (.int .i64 6) (.int .i64 0) (.string ⟨#[]⟩) vl
  row : k24.R 24 W W0.heap.size (fun k => k ≠ g ∧ k ≠ W0.heap.size) vl xs
theorem cntS_next (s : ByteArray) (i : Nat) (hi : i ≤ s.size) : cntS s i = nextR (digR s 2000 (s.size - i) 0 true i) fun n j => (expect s [13, 10] j).as n := by
  unfold cntS
  split
  · rw [show s.size - i = 0 by omega]; rfl
  · exact digs_digR _ _ _ _ _ _ (by omega)
theorem pls_start {b : Nat} {s : ByteArray} {R : Res S24} {f : Nat → Res S24} {i v : Nat} {W : World} (hi : i ≤ s.size) (e : listS s f i = R)
    (h : PLeaves W b s (nextR (digR s 2000 (s.size - i) 0 true i) fun _ j => expect s [13, 10] j)) (hv : ∀ a j, digR s 2000 (s.size - i) 0 true i = .ok a j → v = a) : PLS b s R f v [] W := by
  rw [listS_eq] at e
  cases hx : cntS s i with
  | ok n j =>
    rw [hx] at e
    obtain ⟨h1, j0, h2⟩ := next_ok ((cntS_next s i hi).symm.trans hx)
    rw [h1] at h
    obtain rfl := hv n j0 h2
    exact .good j (cntS_le hx) h (by simpa using e)
  | no k =>
    rw [hx] at e
    rw [next_no ((cntS_next s i hi).symm.trans hx)] at h
    exact .bad k h e.symm
theorem PLI.next {b : Nat} {s : ByteArray} {R : Res S24} {f : Nat → Res S24} {W0 : World} {g n : Nat} {xs : List S24} {vl : Value} {W : World} (h : PLI b s R f W0 g n xs vl W) (hb : b < W0.heap.size) {W' : World} (ho : Only b W W') :
    RAt W' W0.heap.size (.int .i64 0) (.int .i64 0) (.string ⟨#[]⟩) (.slice none 0 0) ∧ RAt W' g (.int .i64 6) (.int .i64 0) (.string ⟨#[]⟩) vl ∧ k24.R 24 W' W0.heap.size (fun k => k ≠ g ∧ k ≠ W0.heap.size) vl xs :=
  ⟨h.res.only ho (by omega), h.own.only ho (by have := h.far; omega), R_only h.row ho hb⟩
theorem PLI.result {b : Nat} {s : ByteArray} {R : Res S24} {f : Nat → Res S24} {W0 : World} {g n : Nat} {xs : List S24} {vl : Value} {W : World} (h : PLI b s R f W0 g n xs vl W) (c0 c1 c2 c3 : Value) :
    k24.M (put4 W W0.heap.size c0 c1 c2 c3) W0.heap.size (fun _ => True) ⟨6, 0, ⟨#[]⟩, xs⟩ [.int .i64 6, .int .i64 0, .string ⟨#[]⟩, vl] :=
  k24_mkM _ _ _ ⟨6, 0, ⟨#[]⟩, xs⟩ (Kd.R_mono (Kd.R_keep h.row (put4_keep W _ c0 c1 c2 c3) (fun k hk => hk.2)) (fun _ _ => trivial))
theorem PLI.grow {b : Nat} {s : ByteArray} {R : Res S24} {f : Nat → Res S24} {W0 : World} {g n : Nat} {xs : List S24} {vl : Value} {W w4 w5 : World} (h : PLI b s R f W0 g n xs vl W) (hb : b < W0.heap.size) (ho : Only b W w4) (hg5 : w4.grownBy w5 vl.ownBlock) :
    RAt w5 g (.int .i64 6) (.int .i64 0) (.string ⟨#[]⟩) vl := by
  obtain ⟨h1, h2, h3⟩ := h.next hb ho
  exact blk_grown h2 hg5 (fun e => (h3.1 g e.symm).1 rfl)
theorem PLI.elem {b : Nat} {s : ByteArray} {R : Res S24} {f : Nat → Res S24} {W0 : World} {g n : Nat} {xs : List S24} {vl : Value} {W w4 : World} (h : PLI b s R f W0 g n xs vl W) (hb : b < W0.heap.size) (ho : Only b W w4) {x : S24} {cs : List Value} (hM : k24.M w4 W.heap.size (fun _ => True) x cs) :
    k24.M w4 W0.heap.size (fun k => (k ≠ g ∧ k ≠ W0.heap.size) ∧ some k ≠ vl.ownBlock) x cs := by
  have hgl := blk_lt h.own
  have hfar := h.far
  refine k24.M_lower (by omega) (k24.M_mono (fun k hk => ?_) (k24.M_bound hM))
  obtain ⟨_, h1, h2, _⟩ := hk
  refine ⟨⟨by omega, by omega⟩, fun e => ?_⟩
  obtain ⟨_, inner, hown, _⟩ := h.row
  have := own_lt hown k e.symm
  omega
theorem PLI.step {b : Nat} {s : ByteArray} {R : Res S24} {f : Nat → Res S24} {W0 : World} {g n j : Nat} {xs : List S24} {vl v1 : Value} {W w4 w5 : World} {x : S24} (h : PLI b s R f W0 g (n + 1) xs vl W) (hj : j ≤ s.size) (e : (itemsS f (n + 1) j).map (fun l => (⟨6, 0, ⟨#[]⟩, xs ++ l⟩ : S24)) = R)
    (hb : b < W0.heap.size) (ho : Only b W w4) (hxr : ∀ a j', f j = .ok a j' → x = a) (ha4 : PLeaves w4 b s (f j)) (hf : ∀ a j', f j = .ok a j' → j ≤ s.size → j' ≤ s.size)
    (ho5 : k24.R 24 w5 W0.heap.size (fun k => k ≠ g ∧ k ≠ W0.heap.size) v1 (xs ++ [x])) (hb5 : Below W0.heap.size w4 w5) (hg5 : w4.grownBy w5 vl.ownBlock) :
    PLI b s R f W0 g n (xs ++ [x]) v1 (w5.setCell ⟨g, 3, none⟩ v1) := by
  obtain ⟨h1, h2, h3⟩ := h.next hb ho
  have hfar := h.far
  have hg := blk_grown h2 hg5 (fun e => (h3.1 g e.symm).1 rfl)
  have hr := blk_grown h1 hg5 (fun e => (h3.1 _ e.symm).2 rfl)
  have hat : ∀ {r : ByteArray} {i y e : Int}, PAt w4 b r i y e → PAt (w5.setCell ⟨g, 3, none⟩ v1) b r i y e := fun hh =>
    (Below.heap_setCell w5 ⟨g, 3, none⟩ v1 b (show b ≠ g by omega)).trans ((hb5.block b hb).trans hh)
  refine ⟨by have := h.few; simp; omega, hfar, ?_, (h.only.trans ho).of_below_lt (Below.trans hb5 ((Below.refl _ _).setCell (p := ⟨g, 3, none⟩) (show W0.heap.size ≤ g by omega) _)) (Nat.le_refl _), ?_, blk_set hg 3 v1, ?_⟩
  · rw [itemsS] at e
    cases hx : f j with
    | no k =>
      rw [hx] at e ha4
      obtain ⟨r, i, e4, ha4⟩ := ha4
      exact .bad k ⟨r, i, e4, hat ha4⟩ e.symm
    | ok y j' =>
      rw [hx] at e ha4
      obtain rfl := hxr y j' hx
      obtain ⟨e4, ha4⟩ := ha4
      refine .good j' (hf x j' hx hj) ⟨e4, hat ha4⟩ ?_
      rw [← e]
      cases hy : itemsS f n j' with
      | ok l k => simp [Res.map, hy]
      | no k => simp [Res.map, hy]
  · exact (Below.heap_setCell w5 ⟨g, 3, none⟩ v1 _ (show W0.heap.size ≠ g by omega)).trans hr
  · exact Kd.R_far ho5 (p := ⟨g, 3, none⟩) (fun k hk => hk.1) v1
theorem pleaves_alloc {α : Type} {w : World} {b : Nat} {s : ByteArray} {R : Res α} (h : PLeaves w b s R) (o : Obj) (hb : b < w.heap.size) : PLeaves (w.alloc o) b s R := by
  cases R with
  | ok a i => obtain ⟨e, h⟩ := h; exact ⟨e, pat_alloc h o⟩
  | no j => obtain ⟨r, i, e, h⟩ := h; exact ⟨r, i, e, pat_alloc h o⟩
theorem below_keep {w W : World} (h : Below w.heap.size w W) : KeepBut w W w.heap.size none := ⟨h.size, fun i hi _ _ => h.block i hi⟩
theorem M_new {w w' : World} {base : Nat} {x : S24} {cs : List Value} (h : k24.M w base (fun _ => True) x cs) (hB : Below w.heap.size w w') : k24.M w' base (fun _ => True) x cs :=
  k24.M_mono (fun _ _ => trivial) (Kd.M_keep (k24.M_bound h) (below_keep hB) (fun k hk => by have := hk.2.2.1; omega))
set_option maxHeartbeats 1000000 in
set_option maxRecDepth 100000 in
theorem plist_loop (b : Nat) (s : ByteArray) (R : Res S24) (hs : s.size ≤ 140737488351232) (f : Nat → Res S24) (lists : Nat) (hl : lists < 4)
    (ih : ∀ (W : World) (j : Nat) (R : Res S24) (e0 : Int), j ≤ s.size → PAt W b s j 1 e0 → f j = R → Calls Tryd.prog 34 #[.pointer (some ⟨b, 0, none⟩), .int .i64 ((lists : Int) + 1)] W (PAnsOk b s R W))
    (hf : ∀ j a j', f j = .ok a j' → j ≤ s.size → j' ≤ s.size)
    (W : World) (i : Nat) (hi : i ≤ s.size) (e0 : Int) (h : PAt W b s i 1 e0) (e : listS s f i = R) :
    Calls Tryd.prog 61 #[.pointer (some ⟨b, 0, none⟩), .int .i64 lists] W (PAnsOk b s R W) := by
  have hbl := blk_lt h
  have H := Aside0.mk h
  clear h
  have HO0 := Aside0.mk ((Only.refl b W).alloc zero4)
  have hl4 : IntKind.i64.wrap ((lists : Int) + 1) = (lists : Int) + 1 := IntWalk.i64_in _ (by omega)
  have HIH := Lib.hid ih
  have HF := Lib.hid hf
  have HEQ := Aside0.mk e
  clear ih hf e
  have z1 : (W.alloc zero4).heap.size = W.heap.size + 1 := by simp
  have HOA := Aside0.mk (HO0.out.alloc (.cells #[.int .i64 6, .int .i64 0, .string ⟨#[]⟩, .slice none 0 0] 24))
  have HRA := Aside0.mk (show RAt ((W.alloc zero4).alloc (.cells #[.int .i64 6, .int .i64 0, .string ⟨#[]⟩, .slice none 0 0] 24)) W.heap.size (.int .i64 0) (.int .i64 0) (.string ⟨#[]⟩) (.slice none 0 0) from ((MapKept.heap_alloc _ _).2 _ (by omega)).trans (ralloc W))
  have HRL := Aside0.mk (show RAt ((W.alloc zero4).alloc (.cells #[.int .i64 6, .int .i64 0, .string ⟨#[]⟩, .slice none 0 0] 24)) (W.heap.size + 1) (.int .i64 6) (.int .i64 0) (.string ⟨#[]⟩) (.slice none 0 0) from by rw [← z1]; exact (MapKept.heap_alloc _ _).1)
  clear z1
  go_enter Tryd.func61, Tryd.ntmps61
  go_wp2_with fail
  go_at_call 75; refine (dig_L _ b s i _ hs hi (.inl ⟨⟨e0, by exact (pat_alloc (pat_alloc H.out _) _)⟩, rfl⟩)).mono ?_; rintro e w2 ⟨⟨v, hv, rfl, hvr⟩, ha2, ho2⟩; obtain ⟨j2, ha2⟩ := pahead_nextN i (fun j => expect s [13, 10] j) ha2 rfl; have hwv := wrap_nat v (by omega); have HA2 := Aside0.mk ha2; have HO2 := Aside0.mk (HOA.out.trans ho2); have HR2 := Aside0.mk (HRA.out.only ho2 (by omega)); have HL2 := Aside0.mk (HRL.out.only ho2 (by omega)); have HV := Aside0.mk hvr; clear ha2 ho2 hvr
  go_wp2_with fail
  go_at_call 59; refine (crlf_any _ b s j2 _ hs HA2.out).mono ?_; rintro e w3 ⟨rfl, ha3, ho3⟩
  have HLI := Aside0.mk (show PLI b s R f W (W.heap.size + 1) v [] (.slice none 0 0) w3 from ⟨by simpa using hv, by omega, pls_start hi HEQ.out ha3 HV.out, HO2.out.trans ho3, HR2.out.only ho3 (by omega), HL2.out.only ho3 (by omega), Kd.R_nil _ _ _ _ _⟩)
  clear ha3 ho3 HR2 HL2 HV HA2 HO2
  go_wp2_with fail
  go_loopw [7] (fun v7 W' => ∃ (n : Nat) (xs : List S24) (vl : Value), v7 = .int .i64 (xs.length : Nat) ∧ n + xs.length = v ∧ Aside0 (PLI b s R f W (W.heap.size + 1) n xs vl W')) (fun v7 _ => v - (intOf v7).toNat)
  case atStart => exact ⟨v, [], _, rfl, rfl, HLI⟩
  case round =>
    clear HLI
    obtain ⟨n, xs, vl, rfl, hnv, HLI⟩ := hrel
    obtain ⟨A, cp, rfl⟩ := Kd.R_slice HLI.out.row
    obtain ⟨⟨q0, q1, q2, q3⟩, qf0, qf1, qf2, qf3⟩ := HLI.out.own.cells
    obtain ⟨⟨m0, m1, m2, m3⟩, n0, n1, n2, n3⟩ := HLI.out.res.cells
    by_cases hz : n = 0
    · subst hz
      have hnv' : ¬ (xs.length : Int) < (v : Int) := by omega
      have HST := Aside0.mk HLI.out.st
      go_wp2_with fail
      refine bodyPost_ret (v := .agg #[.int .i64 6, .int .i64 0, .string ⟨#[]⟩, .slice A xs.length cp]) (by simp [results, Tryd.results61, go_sem, m0, m1, m2, m3, n0, n1, n2, n3]) rfl ⟨⟨⟨6, 0, ⟨#[]⟩, xs⟩, _, _, _, _, rfl, HLI.out.result _ _ _ _, fun a j he => ?_⟩, ?_, ?_⟩
      · cases HST.out with
        | good j hj h e =>
          rw [← e, itemsS] at he
          simp only [Res.map, List.append_nil, Res.ok.injEq] at he
          exact he.1
        | bad k h e => rw [e] at he; cases he
      · cases HST.out with
        | good j hj h e =>
          rw [← e, itemsS]
          exact put4_pleaves _ _ _ _ (R := Res.ok (α := S24) _ j) h (by omega)
        | bad k h e => rw [e]; exact put4_pleaves _ _ _ _ (R := Res.no (α := S24) k) h (by omega)
      · exact put4_only _ _ _ _ HLI.out.only
    · have hz' : (xs.length : Int) < (v : Int) := by omega
      cases HLI.out.st with
      | bad k h e =>
        obtain ⟨r, i3, e3, h⟩ := h
        obtain ⟨⟨g0, g1, g2, g3⟩, _⟩ := PAt.cells h
        have hw := wh_eq k
        have HG := Aside0.mk h
        have HR := Aside0.mk e
        clear h e hz
        go_wp2_with fail
        refine bodyPost_ret (v := .agg #[.int .i64 6, .int .i64 0, .string ⟨#[]⟩, .slice A xs.length cp]) (by simp [results, Tryd.results61, go_sem, m0, m1, m2, m3, n0, n1, n2, n3]) rfl ⟨⟨⟨6, 0, ⟨#[]⟩, xs⟩, _, _, _, _, rfl, HLI.out.result _ _ _ _, fun a j he => ?_⟩, ?_, ?_⟩
        · rw [HR.out] at he; cases he
        · rw [HR.out]; exact put4_pleaves _ _ _ _ (R := Res.no (α := S24) k) ⟨r, i3, e3, HG.out⟩ (by omega)
        · exact put4_only _ _ _ _ HLI.out.only
      | good j hj h e =>
        obtain ⟨n, rfl⟩ : ∃ m, n = m + 1 := ⟨n - 1, by omega⟩
        obtain ⟨e3, h⟩ := h
        obtain ⟨⟨g0, g1, g2, g3⟩, _⟩ := PAt.cells h
        have HG := Aside0.mk h
        have HE2 := Aside0.mk e
        have hltg := blk_lt HLI.out.own
        clear h e hz m0 m1 m2 m3 n0 n1 n2 n3 q0 q1 q2 q3 qf0 qf1 qf2 qf3
        go_wp2_with fail
        go_at_call 34; refine (HIH.out _ j (f j) e3 hj HG.out rfl).mono ?_; rintro e w4 ⟨⟨x, c0, c1, c2, c3, rfl, hM, hxr⟩, ha4, ho4⟩; obtain ⟨A3, cp3, hcs⟩ := M_form hM; simp only [List.cons.injEq, and_true] at hcs; obtain ⟨rfl, rfl, rfl, rfl⟩ := hcs
        have ho4' : Only b wr w4 := ho4
        have hlt4 : wr.heap.size ≤ w4.heap.size := ho4'.size
        have hB4 : Below w4.heap.size w4 (w4.alloc (.cells #[.int .i64 x.f0, .int .i64 x.f1, .string x.f2, .slice A3 x.f3.length cp3] 24)) := (Below.refl _ _).alloc (Nat.le_refl _) _
        have HA4 := Aside0.mk (pleaves_alloc ha4 (.cells #[.int .i64 x.f0, .int .i64 x.f1, .string x.f2, .slice A3 x.f3.length cp3] 24) (by omega))
        have HO4 := Aside0.mk (ho4'.of_below_lt hB4 hlt4)
        have HM := Aside0.mk (HLI.out.elem hbl HO4.out (M_new hM hB4))
        have hsz4 : (w4.alloc (.cells #[.int .i64 x.f0, .int .i64 x.f1, .string x.f2, .slice A3 x.f3.length cp3] 24)).heap.size = w4.heap.size + 1 := by simp
        have HSZ := Lib.hid hsz4
        have HXR := Aside0.mk hxr
        have HNX := Aside0.mk (HLI.out.next hbl HO4.out)
        have hlt5 : W.heap.size + 1 < w4.heap.size := by omega
        obtain ⟨⟨z0, z1, z2, z3⟩, zf0, zf1, zf2, zf3⟩ := (HLI.out.next hbl ho4').2.1.cells
        clear hM hxr ha4 ho4 ho4' hB4 z0 z1 z2 zf0 zf1 zf2 hsz4
        go_wp2_with ((with_reducible refine gate_builtin (b := .append) (xs := #[.tmp 32, .tmp 34]) rfl ?_); at_builtin; refine Kd.R_append k24 (w0 := w4.alloc (.cells #[.int .i64 x.f0, .int .i64 x.f1, .string x.f2, .slice A3 x.f3.length cp3] 24)) W.heap.size rfl (.tmp 32) (.tmp 34) 22 24 (.agg #[.int .i64 0, .int .i64 0, .string ⟨#[]⟩, .slice none 0 0]) 56 rfl Tryd.underlying22 info24 rfl (by decide) (by omega) (.slice A xs.length cp) xs x [.int .i64 x.f0, .int .i64 x.f1, .string x.f2, .slice A3 x.f3.length cp3] (fun k => k ≠ W.heap.size + 1 ∧ k ≠ W.heap.size) (fun k => (k ≠ W.heap.size + 1 ∧ k ≠ W.heap.size) ∧ some k ≠ (Value.slice A xs.length cp).ownBlock) rfl (by rw [HSZ.out]; rfl) HM.out (fun k hk => hk) (by have := HSZ.out; intro k hk; constructor <;> omega) HNX.out.2.2 (Below.refl _ _) (by have := HSZ.out; omega) (by omega) ?_; intro v5 w5 ho5 hb5 hg5 hat5; obtain ⟨A5, cp5, e5⟩ := Kd.R_slice ho5; subst e5; have HS := Aside0.mk (HLI.out.step hj HE2.out hbl HO4.out HXR.out HA4.out (HF.out j) ho5 hb5 hg5); obtain ⟨⟨y0, y1, y2, y3⟩, yf0, yf1, yf2, yf3⟩ := (HLI.out.grow hbl HO4.out hg5).cells; clear ho5 hb5 hg5 hat5 y0 y1 y2 yf0 yf1 yf2)
        go_roundw
        case rel => exact ⟨n, xs ++ [x], _, by rw [List.length_append]; rfl, by simp; omega, ⟨by have := HS.out; simpa using this⟩⟩
        case measure => simp [intOf]; omega
set_option maxHeartbeats 4000000 in
theorem pans_list (W : World) (b : Nat) (s : ByteArray) (i : Nat) (R : Res S24) (e0 : Int) (hs : s.size ≤ 140737488351232) (h : PAt W b s i 1 e0) (l0 : Int) (hl : l0 < 4) (f : Nat → Res S24)
    (hlist : ∀ (W : World) (i : Nat) (R : Res S24) (e0 : Int), i ≤ s.size → PAt W b s i 1 e0 → f i = R → Calls Tryd.prog 61 #[.pointer (some ⟨b, 0, none⟩), .int .i64 l0] W (PAnsOk b s R W))
    (hi : i < s.size) (hc : ((s[i]).toNat : Int) = 42) (e : f (i + 1) = R) :
    Calls Tryd.prog 34 #[.pointer (some ⟨b, 0, none⟩), .int .i64 l0] W (PAnsOk b s R W) := by
  have hbl := blk_lt h
  have H := Aside0.mk h
  have hr := (s[i]).toNat_lt
  have HR := Aside0.mk e.symm
  have c43 : (((s[i]).toNat : Int) == 43) = false := by rw [hc]; rfl
  have c45 : (((s[i]).toNat : Int) == 45) = false := by rw [hc]; rfl
  have c58 : (((s[i]).toNat : Int) == 58) = false := by rw [hc]; rfl
  have c36 : (((s[i]).toNat : Int) == 36) = false := by rw [hc]; rfl
  have c42 : (((s[i]).toNat : Int) == 42) = true := beq_iff_eq.mpr hc
  have HLI := Lib.hid hlist
  clear hlist
  clear h e hc
  have HO0 := Aside0.mk ((Only.refl b W).alloc zero4)
  go_enter Tryd.func34, Tryd.ntmps34
  go_wp2_with fail
  go_at_call 56; refine (here_some _ b s i e0 hs hi (by exact (pat_alloc H.out _))).mono ?_; rintro e w1 ⟨rfl, ha1, ho1⟩; obtain ⟨⟨g0, g1, g2, g3⟩, q1, q2, q3⟩ := PAt.cells ha1; have HA1 := Aside0.mk (ha1.set1 ((i : Int) + 1)); have HO1 := Aside0.mk ((HO0.out.trans ho1).set 1 (.int .i64 ((i : Int) + 1))); have HR1 := Aside0.mk (((ralloc W).only ho1 (by omega)).only ((Only.refl b _).set 1 (.int .i64 ((i : Int) + 1))) (by omega)); clear ha1 ho1
  go_wp2_with fail
  go_at_call 61; refine (HLI.out _ (i + 1) _ e0 (by omega) (by exact HA1.out) rfl).mono ?_; rintro e w2 ⟨⟨x, c0, c1, c2, c3, rfl, hM, hxr⟩, ha2, ho2⟩; obtain ⟨A3, cp3, hcs⟩ := M_form hM; simp only [List.cons.injEq, and_true] at hcs; obtain ⟨rfl, rfl, rfl, rfl⟩ := hcs; obtain ⟨⟨m0, m1, m2, m3⟩, n0, n1, n2, n3⟩ := (HR1.out.only ho2 (by omega)).cells; have hlt := blk_lt HR1.out; have HM := Aside0.mk (k24.M_lower (by have := HO1.out.size; omega) (M_put4 (.int .i64 x.f0) (.int .i64 x.f1) (.string x.f2) (.slice A3 x.f3.length cp3) hM (show W.heap.size < _ from hlt))); have HA2 := Aside0.mk ha2; have HO2 := Aside0.mk (HO1.out.trans ho2); have HX := Aside0.mk hxr; clear hM ha2 ho2 hxr
  go_wp2_with fail
  refine bodyPost_ret (v := .agg #[.int .i64 x.f0, .int .i64 x.f1, .string x.f2, .slice A3 x.f3.length cp3]) (by simp [results, Tryd.results34, go_sem, m0, m1, m2, m3, n0, n1, n2, n3]) rfl ⟨⟨x, _, _, _, _, rfl, HM.out, fun a j he => ?_⟩, ?_, ?_⟩
  · rw [HR.out] at he; exact HX.out a j he
  · rw [HR.out]; exact put4_pleaves _ _ _ _ HA2.out (by omega)
  · exact put4_only _ _ _ _ HO2.out
theorem pans_head (b : Nat) (s : ByteArray) (hs : s.size ≤ 140737488351232) (f : Nat → Res S24) (lists : Nat)
    (hlist : ∀ (W : World) (i : Nat) (hi : i < s.size) (R : Res S24) (e0 : Int), PAt W b s i 1 e0 → ((s[i]).toNat : Int) = 42 → f (i + 1) = R → Calls Tryd.prog 34 #[.pointer (some ⟨b, 0, none⟩), .int .i64 lists] W (PAnsOk b s R W))
    (W : World) (i : Nat) (R : Res S24) (e0 : Int) (h : PAt W b s i 1 e0) (e : headS s f i = R) : Calls Tryd.prog 34 #[.pointer (some ⟨b, 0, none⟩), .int .i64 lists] W (PAnsOk b s R W) := by
  unfold headS at e
  by_cases hi : s.size ≤ i
  · rw [if_pos hi] at e
    exact pans_end W b s i R e0 hs h lists (by omega) e.symm
  · have hi' : i < s.size := by omega
    rw [if_neg hi, bt_nat s i hi'] at e
    by_cases c43 : ((s[i]).toNat : Int) = 43
    · rw [if_pos c43] at e
      exact pans_line1 W b s i R e0 hs h lists hi' c43 e
    · rw [if_neg c43] at e
      by_cases c45 : ((s[i]).toNat : Int) = 45
      · rw [if_pos c45] at e
        exact pans_line2 W b s i R e0 hs h lists hi' c45 e
      · rw [if_neg c45] at e
        by_cases c58 : ((s[i]).toNat : Int) = 58
        · rw [if_pos c58] at e
          exact pans_num W b s i R e0 hs h lists hi' c58 e
        · rw [if_neg c58] at e
          by_cases c36 : ((s[i]).toNat : Int) = 36
          · rw [if_pos c36] at e
            exact pans_bulk W b s i R e0 hs h lists hi' c36 e
          · rw [if_neg c36] at e
            by_cases c42 : ((s[i]).toNat : Int) = 42
            · rw [if_pos c42] at e
              exact hlist W i hi' R e0 h c42 e
            · rw [if_neg c42] at e
              exact pans_wrong W b s i R e0 hs h lists hi' c43 c45 c58 c36 (.inl c42) e.symm
theorem pans_any (b : Nat) (s : ByteArray) (hs : s.size ≤ 140737488351232) : ∀ (d lists : Nat), lists + d = 4 →
    ∀ (W : World) (i : Nat) (R : Res S24) (e0 : Int), PAt W b s i 1 e0 → ansS s d i = R → Calls Tryd.prog 34 #[.pointer (some ⟨b, 0, none⟩), .int .i64 lists] W (PAnsOk b s R W)
  | 0, lists, hl, W, i, R, e0, h, e => by
    refine pans_head b s hs (fun _ => .no 1) lists (fun W i hi R e0 h c42 e => ?_) W i R e0 h e
    exact pans_wrong W b s i R e0 hs h lists hi (by omega) (by omega) (by omega) (by omega) (.inr (by omega)) e.symm
  | d + 1, lists, hl, W, i, R, e0, h, e => by
    refine pans_head b s hs (listS s (ansS s d)) lists (fun W i hi R e0 h c42 e => ?_) W i R e0 h e
    refine pans_list W b s i R e0 hs h lists (by omega) (listS s (ansS s d)) (fun W i R e0 hi h e => ?_) hi c42 e
    refine plist_loop b s R hs (ansS s d) lists (by omega) (fun W j R e0 _ h e => ?_) (fun j a j' h _ => ansS_le h) W i hi e0 h e
    exact pans_any b s hs d (lists + 1) (by omega) W j R e0 h e
end Go.Proofs.YtbdfjiobegadjaaDoor.Pl
