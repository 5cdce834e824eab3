/- The walk of the law's own 'deep'. -/
import Derived.Test.YtbdfjiobegadjaaDoorDeepLaw
import Derived.Test.YtbdfjiobegadjaaDoorMay
import Derived.Test.YtbdfjiobegadjaaDoorDecode
import Derived.Deep.RegionLaw
import Derived.Deep.AppendLies
namespace Go.Proofs.YtbdfjiobegadjaaDoor.Wr
open Go Go.RowKit Go.Proofs.YtbdfjiobegadjaaDoor.Tk Go.Proofs.YtbdfjiobegadjaaDoor.PWireMemory Go.Proofs.YtbdfjiobegadjaaDoorW.PrintWords Go.Proofs.YtbdfjiobegadjaaDoorW.PrintLast Go.Proofs.YtbdfjiobegadjaaDoorW.PrintMore
set_option linter.unusedVariables false
set_option linter.unusedSectionVars false
set_option linter.unusedSimpArgs false
structure DeepOk (y : S24) (W : World) (e : Ending) (W' : World) : Prop where
  end_ : ∃ (A : Option Addr) (c : Nat), e = .returned (agv y A c) ∧ k24.M W' W.heap.size (fun _ => True) y [.int .i64 y.f0, .int .i64 y.f1, .string y.f2, .slice A y.f3.length c]
  below : Below W.heap.size W W'
abbrev three (W : World) (o : Obj) (k : Int) : World := ((W.alloc o).alloc zero4).alloc (.cells #[.int .i64 k, .int .i64 0, .string ⟨#[]⟩, .slice none 0 0] 24)
theorem three_size (W : World) (o : Obj) (k : Int) : (three W o k).heap.size = W.heap.size + 3 := by simp [three]
theorem three_res (W : World) (o : Obj) (k : Int) : RAt (three W o k) (W.heap.size + 1) (.int .i64 0) (.int .i64 0) (.string ⟨#[]⟩) (.slice none 0 0) := by
  have e1 : (W.alloc o).heap.size = W.heap.size + 1 := by simp
  show (three W o k).heap[W.heap.size + 1]? = _
  rw [(MapKept.heap_alloc _ _).2 _ (by simp), ← e1]
  exact (MapKept.heap_alloc _ _).1
theorem three_own (W : World) (o : Obj) (k : Int) : RAt (three W o k) (W.heap.size + 2) (.int .i64 k) (.int .i64 0) (.string ⟨#[]⟩) (.slice none 0 0) := by
  have e1 : ((W.alloc o).alloc zero4).heap.size = W.heap.size + 2 := by simp
  show (three W o k).heap[W.heap.size + 2]? = _
  rw [← e1]
  exact (MapKept.heap_alloc _ _).1
theorem three_below (W : World) (o : Obj) (k : Int) : Below W.heap.size W (three W o k) := below_alloc (below_alloc (below_alloc (Below.refl _ _) _) _) _
set_option maxHeartbeats 2000000 in
theorem deep_line (x : S24) (d : Nat) (h : kindF x.f0 = 1) (hs : x.f2.size ≤ 140737488351232) (W : World) (A : Option Addr) (c : Nat) (lists : Int) : Calls Tryd.prog 25 #[agv x A c, .int .i64 lists] W (DeepOk ⟨1, 0, lineS x.f2, []⟩ W) := by
  have hk : IntKind.i64.wrap (1 + pickF (wrap64 (x.f0 - 1)) 6) = 1 := by
    have : 1 + pickF (wrap64 (x.f0 - 1)) 6 = 1 := h
    rw [this]; rfl
  go_enter Tryd.func25, Tryd.ntmps25
  go_wp2_with fail
  go_at_call 16
  refine (pick_walk _ 6 (by omega) (by omega) _).mono ?_
  rintro _ w1 ⟨rfl, rfl⟩
  go_wp2_with fail
  go_at_call 46
  refine (line_walk x.f2 hs _).mono ?_
  rintro _ w2 ⟨rfl, hb2'⟩
  have hb2 : Below (three W (ago x A c) 1).heap.size (three W (ago x A c) 1) w2 := hb2'
  have hz := three_size W (ago x A c) 1
  have HR := Aside0.mk (show RAt w2 (W.heap.size + 1) _ _ _ _ from (hb2.block _ (by omega)).trans (three_res W (ago x A c) 1))
  have HO := Aside0.mk (show RAt w2 (W.heap.size + 2) _ _ _ _ from (hb2.block _ (by omega)).trans (three_own W (ago x A c) 1))
  have HB := Aside0.mk ((three_below W (ago x A c) 1).trans (hb2.mono (by omega)))
  have hlt : W.heap.size + 3 ≤ w2.heap.size := by have := hb2.size; omega
  obtain ⟨⟨m0, m1, m2, m3⟩, n0, n1, n2, n3⟩ := HR.out.cells
  obtain ⟨⟨q0, q1, q2, q3⟩, r0, r1, r2, r3⟩ := HO.out.cells
  clear hb2 hb2' hz
  have hmv : RAt (w2.setCell ⟨W.heap.size + 1 + 1, 2, none⟩ (.string (lineS x.f2))) (W.heap.size + 1) _ _ _ _ := (Below.heap_setCell w2 ⟨W.heap.size + 1 + 1, 2, none⟩ _ _ (show W.heap.size + 1 ≠ W.heap.size + 1 + 1 by omega)).trans HR.out
  obtain ⟨⟨z0, z1, z2, z3⟩, _⟩ := (rat_put4 hmv (.int .i64 1) (.int .i64 0) (.string (lineS x.f2)) (.slice none 0 0)).cells
  clear hmv
  go_wp2_with fail
  refine bodyPost_ret (v := agv ⟨1, 0, lineS x.f2, []⟩ none 0) (by simp [results, Tryd.results25, go_sem, z0, z1, z2, z3]) rfl ⟨⟨none, 0, rfl, plain_M _ _ 1 0 _⟩, ?_⟩
  exact put4_below _ _ _ _ _ (HB.out.setCell (p := ⟨W.heap.size + 1 + 1, 2, none⟩) (show W.heap.size ≤ W.heap.size + 1 + 1 by omega) _) (by omega)
set_option maxHeartbeats 2000000 in
theorem deep_line2 (x : S24) (d : Nat) (h : kindF x.f0 = 2) (hs : x.f2.size ≤ 140737488351232) (W : World) (A : Option Addr) (c : Nat) (lists : Int) : Calls Tryd.prog 25 #[agv x A c, .int .i64 lists] W (DeepOk ⟨2, 0, lineS x.f2, []⟩ W) := by
  have hk : IntKind.i64.wrap (1 + pickF (wrap64 (x.f0 - 1)) 6) = 2 := by
    have : 1 + pickF (wrap64 (x.f0 - 1)) 6 = 2 := h
    rw [this]; rfl
  go_enter Tryd.func25, Tryd.ntmps25
  go_wp2_with fail
  go_at_call 16
  refine (pick_walk _ 6 (by omega) (by omega) _).mono ?_
  rintro _ w1 ⟨rfl, rfl⟩
  go_wp2_with fail
  go_at_call 46
  refine (line_walk x.f2 hs _).mono ?_
  rintro _ w2 ⟨rfl, hb2'⟩
  have hb2 : Below (three W (ago x A c) 2).heap.size (three W (ago x A c) 2) w2 := hb2'
  have hz := three_size W (ago x A c) 2
  have HR := Aside0.mk (show RAt w2 (W.heap.size + 1) _ _ _ _ from (hb2.block _ (by omega)).trans (three_res W (ago x A c) 2))
  have HO := Aside0.mk (show RAt w2 (W.heap.size + 2) _ _ _ _ from (hb2.block _ (by omega)).trans (three_own W (ago x A c) 2))
  have HB := Aside0.mk ((three_below W (ago x A c) 2).trans (hb2.mono (by omega)))
  have hlt : W.heap.size + 3 ≤ w2.heap.size := by have := hb2.size; omega
  obtain ⟨⟨m0, m1, m2, m3⟩, n0, n1, n2, n3⟩ := HR.out.cells
  obtain ⟨⟨q0, q1, q2, q3⟩, r0, r1, r2, r3⟩ := HO.out.cells
  clear hb2 hb2' hz
  have hmv : RAt (w2.setCell ⟨W.heap.size + 1 + 1, 2, none⟩ (.string (lineS x.f2))) (W.heap.size + 1) _ _ _ _ := (Below.heap_setCell w2 ⟨W.heap.size + 1 + 1, 2, none⟩ _ _ (show W.heap.size + 1 ≠ W.heap.size + 1 + 1 by omega)).trans HR.out
  obtain ⟨⟨z0, z1, z2, z3⟩, _⟩ := (rat_put4 hmv (.int .i64 2) (.int .i64 0) (.string (lineS x.f2)) (.slice none 0 0)).cells
  clear hmv
  go_wp2_with fail
  refine bodyPost_ret (v := agv ⟨2, 0, lineS x.f2, []⟩ none 0) (by simp [results, Tryd.results25, go_sem, z0, z1, z2, z3]) rfl ⟨⟨none, 0, rfl, plain_M _ _ 2 0 _⟩, ?_⟩
  exact put4_below _ _ _ _ _ (HB.out.setCell (p := ⟨W.heap.size + 1 + 1, 2, none⟩) (show W.heap.size ≤ W.heap.size + 1 + 1 by omega) _) (by omega)
set_option maxHeartbeats 2000000 in
theorem deep_none (x : S24) (h : kindF x.f0 = 5) (W : World) (A : Option Addr) (c : Nat) (lists : Int) : Calls Tryd.prog 25 #[agv x A c, .int .i64 lists] W (DeepOk ⟨5, 0, ⟨#[]⟩, []⟩ W) := by
  have hk : IntKind.i64.wrap (1 + pickF (wrap64 (x.f0 - 1)) 6) = 5 := by
    have : 1 + pickF (wrap64 (x.f0 - 1)) 6 = 5 := h
    rw [this]; rfl
  have HR := Aside0.mk (three_res W (ago x A c) 5)
  have HB := Aside0.mk (three_below W (ago x A c) 5)
  obtain ⟨⟨z0, z1, z2, z3⟩, _⟩ := (rat_put4 HR.out (.int .i64 5) (.int .i64 0) (.string ⟨#[]⟩) (.slice none 0 0)).cells
  go_enter Tryd.func25, Tryd.ntmps25
  go_wp2_with fail
  go_at_call 16
  refine (pick_walk _ 6 (by omega) (by omega) _).mono ?_
  rintro _ w1 ⟨rfl, rfl⟩
  go_wp2_with fail
  refine bodyPost_ret (v := agv ⟨5, 0, ⟨#[]⟩, []⟩ none 0) (by simp [results, Tryd.results25, go_sem, z0, z1, z2, z3]) rfl ⟨⟨none, 0, rfl, plain_M _ _ 5 0 _⟩, ?_⟩
  exact below_alloc (below_alloc (below_alloc (Below.refl _ _) _) _) _
set_option maxHeartbeats 2000000 in
theorem deep_num (x : S24) (h : kindF x.f0 = 3) (W : World) (A : Option Addr) (c : Nat) (lists : Int) : Calls Tryd.prog 25 #[agv x A c, .int .i64 lists] W (DeepOk ⟨3, x.f1, ⟨#[]⟩, []⟩ W) := by
  have hk : IntKind.i64.wrap (1 + pickF (wrap64 (x.f0 - 1)) 6) = 3 := by
    have : 1 + pickF (wrap64 (x.f0 - 1)) 6 = 3 := h
    rw [this]; rfl
  go_enter Tryd.func25, Tryd.ntmps25
  go_wp2_with fail
  go_at_call 16
  refine (pick_walk _ 6 (by omega) (by omega) _).mono ?_
  rintro _ w1 ⟨rfl, rfl⟩
  go_wp2_with fail
  have e1 : (W.alloc (ago x A c)).heap.size = W.heap.size + 1 := by simp
  have HR : RAt (((W.alloc (ago x A c)).alloc (.cells #[.int .i64 3, .int .i64 x.f1, .string ⟨#[]⟩, .slice none 0 0] 24)).alloc (.cells #[.int .i64 3, .int .i64 x.f1, .string ⟨#[]⟩, .slice none 0 0] 24)) (W.heap.size + 1) (.int .i64 3) (.int .i64 x.f1) (.string ⟨#[]⟩) (.slice none 0 0) := by
    show ((((W.alloc (ago x A c)).alloc (.cells #[.int .i64 3, .int .i64 x.f1, .string ⟨#[]⟩, .slice none 0 0] 24)).alloc (.cells #[.int .i64 3, .int .i64 x.f1, .string ⟨#[]⟩, .slice none 0 0] 24))).heap[W.heap.size + 1]? = _
    rw [(MapKept.heap_alloc _ _).2 _ (by simp), ← e1]
    exact (MapKept.heap_alloc _ _).1
  obtain ⟨⟨z0, z1, z2, z3⟩, _⟩ := HR.cells
  refine bodyPost_ret (v := agv ⟨3, x.f1, ⟨#[]⟩, []⟩ none 0) (by simp [results, Tryd.results25, go_sem, z0, z1, z2, z3]) rfl ⟨⟨none, 0, rfl, plain_M _ _ 3 x.f1 _⟩, ?_⟩
  exact below_alloc (below_alloc (below_alloc (Below.refl _ _) _) _) _
set_option maxHeartbeats 2000000 in
theorem deep_bulk (x : S24) (h : kindF x.f0 = 4) (W : World) (A : Option Addr) (c : Nat) (lists : Int) : Calls Tryd.prog 25 #[agv x A c, .int .i64 lists] W (DeepOk ⟨4, 0, headF x.f2, []⟩ W) := by
  have hk : IntKind.i64.wrap (1 + pickF (wrap64 (x.f0 - 1)) 6) = 4 := by
    have : 1 + pickF (wrap64 (x.f0 - 1)) 6 = 4 := h
    rw [this]; rfl
  go_enter Tryd.func25, Tryd.ntmps25
  go_wp2_with fail
  go_at_call 16
  refine (pick_walk _ 6 (by omega) (by omega) _).mono ?_
  rintro _ w1 ⟨rfl, rfl⟩
  go_wp2_with fail
  go_at_call 47
  refine (head_walk x.f2 _).mono ?_
  rintro _ w2 ⟨rfl, rfl⟩
  go_wp2_with fail
  have e1 : (W.alloc (ago x A c)).heap.size = W.heap.size + 1 := by simp
  have HR : RAt (((W.alloc (ago x A c)).alloc (.cells #[.int .i64 4, .int .i64 0, .string (headF x.f2), .slice none 0 0] 24)).alloc (.cells #[.int .i64 4, .int .i64 0, .string (headF x.f2), .slice none 0 0] 24)) (W.heap.size + 1) (.int .i64 4) (.int .i64 0) (.string (headF x.f2)) (.slice none 0 0) := by
    show ((((W.alloc (ago x A c)).alloc (.cells #[.int .i64 4, .int .i64 0, .string (headF x.f2), .slice none 0 0] 24)).alloc (.cells #[.int .i64 4, .int .i64 0, .string (headF x.f2), .slice none 0 0] 24))).heap[W.heap.size + 1]? = _
    rw [(MapKept.heap_alloc _ _).2 _ (by simp), ← e1]
    exact (MapKept.heap_alloc _ _).1
  obtain ⟨⟨z0, z1, z2, z3⟩, _⟩ := HR.cells
  refine bodyPost_ret (v := agv ⟨4, 0, headF x.f2, []⟩ none 0) (by simp [results, Tryd.results25, go_sem, z0, z1, z2, z3]) rfl ⟨⟨none, 0, rfl, plain_M _ _ 4 0 _⟩, ?_⟩
  exact below_alloc (below_alloc (below_alloc (Below.refl _ _) _) _) _
set_option maxHeartbeats 2000000 in
theorem deep_far (x : S24) (h : kindF x.f0 = 6) (W : World) (A : Option Addr) (c : Nat) (lists : Int) (h4 : 4 ≤ lists) : Calls Tryd.prog 25 #[agv x A c, .int .i64 lists] W (DeepOk ⟨5, 0, ⟨#[]⟩, []⟩ W) := by
  have hk : IntKind.i64.wrap (1 + pickF (wrap64 (x.f0 - 1)) 6) = 6 := by
    have : 1 + pickF (wrap64 (x.f0 - 1)) 6 = 6 := h
    rw [this]; rfl
  go_enter Tryd.func25, Tryd.ntmps25
  go_wp2_with fail
  go_at_call 16
  refine (pick_walk _ 6 (by omega) (by omega) _).mono ?_
  rintro _ w1 ⟨rfl, rfl⟩
  go_wp2_with fail
  have e1 : (W.alloc (ago x A c)).heap.size = W.heap.size + 1 := by simp
  have HR : RAt (((W.alloc (ago x A c)).alloc (.cells #[.int .i64 5, .int .i64 0, .string ⟨#[]⟩, .slice none 0 0] 24)).alloc (.cells #[.int .i64 5, .int .i64 0, .string ⟨#[]⟩, .slice none 0 0] 24)) (W.heap.size + 1) (.int .i64 5) (.int .i64 0) (.string ⟨#[]⟩) (.slice none 0 0) := by
    show ((((W.alloc (ago x A c)).alloc (.cells #[.int .i64 5, .int .i64 0, .string ⟨#[]⟩, .slice none 0 0] 24)).alloc (.cells #[.int .i64 5, .int .i64 0, .string ⟨#[]⟩, .slice none 0 0] 24))).heap[W.heap.size + 1]? = _
    rw [(MapKept.heap_alloc _ _).2 _ (by simp), ← e1]
    exact (MapKept.heap_alloc _ _).1
  obtain ⟨⟨z0, z1, z2, z3⟩, _⟩ := HR.cells
  refine bodyPost_ret (v := agv ⟨5, 0, ⟨#[]⟩, []⟩ none 0) (by simp [results, Tryd.results25, go_sem, z0, z1, z2, z3]) rfl ⟨⟨none, 0, rfl, plain_M _ _ 5 0 _⟩, ?_⟩
  exact below_alloc (below_alloc (below_alloc (Below.refl _ _) _) _) _
end Go.Proofs.YtbdfjiobegadjaaDoor.Wr
/- The walk of the law's own 'deep' where a list is made. -/
namespace Go.Proofs.YtbdfjiobegadjaaDoor.Wr
open Go Go.RowKit Go.Proofs.YtbdfjiobegadjaaDoor.Tk Go.Proofs.YtbdfjiobegadjaaDoor.PWireMemory Go.Proofs.YtbdfjiobegadjaaDoorW.PrintWords Go.Proofs.YtbdfjiobegadjaaDoorW.PrintLast Go.Proofs.YtbdfjiobegadjaaDoorW.PrintMore
set_option linter.unusedVariables false
set_option linter.unusedSectionVars false
set_option linter.unusedSimpArgs false
theorem rd_at (l : List S24) (i : Nat) (h : i < l.length) : rd_T24 l (i : Int) = l[i] := by
  unfold rd_T24
  rw [Int.toNat_natCast, List.getD_eq_getElem?_getD, List.getElem?_eq_getElem h]
  rfl
theorem M_stay {w w' : World} {base : Nat} {x : S24} {cs : List Value} (h : k24.M w base (fun _ => True) x cs) (hB : Below w.heap.size w w') : k24.M w' base (fun _ => True) x cs := Kd.M_below h hB
/-- The state at the head of each round. -/
structure DLI (x : S24) (A : Option Addr) (c : Nat) (W0 : World) (ys : List S24) (vl : Value) (W : World) : Prop where
  below : Below W0.heap.size W0 W
  box : RAt W W0.heap.size (.int .i64 x.f0) (.int .i64 x.f1) (.string x.f2) (.slice A x.f3.length c)
  res : RAt W (W0.heap.size + 1) (.int .i64 0) (.int .i64 0) (.string ⟨#[]⟩) (.slice none 0 0)
  own : RAt W (W0.heap.size + 2) (.int .i64 6) (.int .i64 0) (.string ⟨#[]⟩) vl
  row : k24.R 24 W W0.heap.size (fun k => W0.heap.size + 3 ≤ k) vl ys
theorem rat_below {w w' : World} {g : Nat} {c0 c1 c2 c3 : Value} (h : RAt w g c0 c1 c2 c3) (hb : Below w.heap.size w w') : RAt w' g c0 c1 c2 c3 := (hb.block g (blk_lt h)).trans h
theorem DLI.step {x : S24} {A : Option Addr} {c : Nat} {W0 : World} {ys : List S24} {vl : Value} {W : World} (h : DLI x A c W0 ys vl W) {W' : World} (hb : Below W.heap.size W W') : DLI x A c W0 ys vl W' :=
  ⟨h.below.trans (hb.mono h.below.size), rat_below h.box hb, rat_below h.res hb, rat_below h.own hb, Kd.R_below h.row hb⟩
theorem DLI.elem {x : S24} {A : Option Addr} {c : Nat} {W0 : World} {ys : List S24} {vl : Value} {W W' : World} (h : DLI x A c W0 ys vl W) {y : S24} {cs : List Value} (hM : k24.M W' W.heap.size (fun _ => True) y cs) :
    k24.M W' W0.heap.size (fun k => W0.heap.size + 3 ≤ k ∧ some k ≠ vl.ownBlock) y cs := by
  have hgl := blk_lt h.own
  refine k24.M_lower (by omega) (k24.M_mono (fun k hk => ?_) (k24.M_bound hM))
  obtain ⟨_, h1, h2, _⟩ := hk
  refine ⟨by omega, fun e => ?_⟩
  obtain ⟨_, inner, hown, _⟩ := h.row
  have := own_lt hown k e.symm
  omega
theorem DLI.grow {x : S24} {A : Option Addr} {c : Nat} {W0 : World} {ys zs : List S24} {vl v1 : Value} {W W' : World} (h : DLI x A c W0 ys vl W) (hb : Below W0.heap.size W W') (hg : W.grownBy W' vl.ownBlock)
    (hr : k24.R 24 W' W0.heap.size (fun k => W0.heap.size + 3 ≤ k) v1 zs) : DLI x A c W0 zs v1 (W'.setCell ⟨W0.heap.size + 2, 3, none⟩ v1) := by
  have hx := blk_grown h.box hg (fun e => by have := h.row.1 _ e.symm; omega)
  have hr1 := blk_grown h.res hg (fun e => by have := h.row.1 _ e.symm; omega)
  have ho := blk_grown h.own hg (fun e => by have := h.row.1 _ e.symm; omega)
  exact ⟨(h.below.trans hb).setCell (p := ⟨W0.heap.size + 2, 3, none⟩) (show W0.heap.size ≤ W0.heap.size + 2 by omega) _,
    (Below.heap_setCell W' ⟨W0.heap.size + 2, 3, none⟩ v1 _ (show W0.heap.size ≠ W0.heap.size + 2 by omega)).trans hx,
    (Below.heap_setCell W' ⟨W0.heap.size + 2, 3, none⟩ v1 _ (show W0.heap.size + 1 ≠ W0.heap.size + 2 by omega)).trans hr1, blk_set ho 3 v1,
    Kd.R_far hr (p := ⟨W0.heap.size + 2, 3, none⟩) (fun k hk => by show k ≠ W0.heap.size + 2; omega) v1⟩
theorem DLI.cellsOf {x : S24} {A : Option Addr} {c : Nat} {W0 : World} {ys : List S24} {vl : Value} {W : World} (h : DLI x A c W0 ys vl W) : W.cell? ⟨W0.heap.size + 2, 3, none⟩ = some vl ∧ W.frozen? ⟨W0.heap.size + 2, 3, none⟩ = false := by
  obtain ⟨⟨_, _, _, m3⟩, _, _, _, n3⟩ := h.own.cells
  exact ⟨m3, n3⟩
set_option maxRecDepth 100000 in
set_option maxHeartbeats 2000000 in
theorem deep_list (x : S24) (h : kindF x.f0 = 6) (d lists : Nat) (h4 : lists < 4) (W : World) (A : Option Addr) (c : Nat) (hA : k24.C W A x.f3.length x.f3)
    (ih : ∀ y ∈ x.f3, ∀ (W' : World) (B : Option Addr) (e : Nat), y.f3.length ≤ e → k24.C W' B y.f3.length y.f3 → Calls Tryd.prog 25 #[agv y B e, .int .i64 ((lists : Int) + 1)] W' (DeepOk (deepS d y) W')) :
    Calls Tryd.prog 25 #[agv x A c, .int .i64 lists] W (DeepOk ⟨6, 0, ⟨#[]⟩, (x.f3.take 5).map (deepS d)⟩ W) := by
  have hk : IntKind.i64.wrap (1 + pickF (wrap64 (x.f0 - 1)) 6) = 6 := by
    have : 1 + pickF (wrap64 (x.f0 - 1)) 6 = 6 := h
    rw [this]; rfl
  have h4' : ¬ (4 : Int) ≤ (lists : Int) := by omega
  have hsum : IntKind.i64.wrap ((lists : Int) + 1) = (lists : Int) + 1 := IntWalk.i64_in _ (by omega)
  have HI := Lib.hid ih
  have HA := Aside0.mk hA
  have HL := Aside0.mk (show DLI x A c W [] (.slice none 0 0) (three W (ago x A c) 6) from ⟨three_below _ _ _, by
    have e1 : (W.alloc (ago x A c)).heap.size = W.heap.size + 1 := by simp
    have e2 : ((W.alloc (ago x A c)).alloc zero4).heap.size = W.heap.size + 2 := by simp
    exact ((MapKept.heap_alloc _ _).2 _ (by omega)).trans (((MapKept.heap_alloc _ _).2 _ (by omega)).trans (ago_at W x A c)), three_res _ _ _, three_own _ _ _, Kd.R_nil _ _ _ _ _⟩)
  clear ih hA
  go_enter Tryd.func25, Tryd.ntmps25
  go_wp2_with fail
  go_at_call 16
  refine (pick_walk _ 6 (by omega) (by omega) _).mono ?_
  rintro _ w1 ⟨rfl, rfl⟩
  go_wp2_with fail
  go_loopw [6] (fun v6 W' => ∃ (i : Nat) (vl : Value), v6 = .int .i64 i ∧ i ≤ x.f3.length ∧ i ≤ 5 ∧ Aside0 (DLI x A c W ((x.f3.take i).map (deepS d)) vl W')) (fun v6 _ => 5 - (intOf v6).toNat)
  case atStart => exact ⟨0, _, rfl, by omega, by omega, HL⟩
  case round =>
    clear HL
    obtain ⟨i, vl, rfl, hi, hi5, HL⟩ := hrel
    obtain ⟨⟨b0, b1, b2, b3⟩, _⟩ := HL.out.box.cells
    by_cases hlt : i < x.f3.length ∧ i < 5
    · have hlt1 : (i : Int) < (x.f3.length : Int) := by omega
      have hlt2 : (i : Int) < 5 := by omega
      obtain ⟨a, B, e, rfl, a0, a1, a2, a3, ae, aC⟩ := elem_K (Kd.C_below HA.out HL.out.below) i hlt.1
      have hmem := Lib.hid (rd_mem hlt.1)
      have hsn := Lib.hid (show (x.f3.take (i + 1)).map (deepS d) = (x.f3.take i).map (deepS d) ++ [deepS d (rd_T24 x.f3 (i : Int))] by
        rw [List.take_succ_eq_append_getElem hlt.1, List.map_append, rd_at x.f3 i hlt.1]; rfl)
      generalize hy : rd_T24 x.f3 i = y at a0 a1 a2 a3 ae aC hmem hsn
      have AC := Aside0.mk aC
      have HLI := HL
      clear aC hy
      go_wp2_with fail
      go_at_call 25
      refine (HI.out y hmem.out wr B e ae AC.out).mono ?_
      rintro _ w4 ⟨⟨A3, cp3, rfl, hM⟩, hb4⟩
      generalize hz : deepS d y = z at hM hsn
      have hB4 : Below wr.heap.size wr (w4.alloc (.cells #[.int .i64 z.f0, .int .i64 z.f1, .string z.f2, .slice A3 z.f3.length cp3] 24)) := below_alloc hb4 _
      have HL4 := Aside0.mk (HL.out.step hB4)
      have HM := Aside0.mk (HL.out.elem (M_stay hM ((Below.refl w4.heap.size w4).alloc (Nat.le_refl _) (.cells #[.int .i64 z.f0, .int .i64 z.f1, .string z.f2, .slice A3 z.f3.length cp3] 24))))
      have hsz4 := Lib.hid (show (w4.alloc (.cells #[.int .i64 z.f0, .int .i64 z.f1, .string z.f2, .slice A3 z.f3.length cp3] 24)).heap.size = w4.heap.size + 1 by simp)
      have hlt4 : W.heap.size + 2 < w4.heap.size := by have := blk_lt HL.out.own; have := hb4.size; omega
      have hl3 := Lib.hid (show W.heap.size + 3 ≤ w4.heap.size by omega)
      obtain ⟨z3, zf3⟩ := (HL.out.step hb4).cellsOf
      obtain ⟨A1, c1, rfl⟩ := Kd.R_slice HL.out.row
      have hylen : ((x.f3.take i).map (deepS d)).length ≤ 5 := by simp; omega
      generalize hys : (x.f3.take i).map (deepS d) = ys at HL HL4 HM z3 zf3 hylen hsn
      clear hM hb4 hB4 hz
      go_wp2_with ((with_reducible refine gate_builtin (b := .append) (xs := #[.tmp 60, .tmp 62]) rfl ?_); at_builtin; refine Kd.R_append k24 (w0 := w4.alloc (.cells #[.int .i64 z.f0, .int .i64 z.f1, .string z.f2, .slice A3 z.f3.length cp3] 24)) W.heap.size rfl (.tmp 60) (.tmp 62) 22 24 (.agg #[.int .i64 0, .int .i64 0, .string ⟨#[]⟩, .slice none 0 0]) 56 rfl Tryd.underlying22 info24 rfl (by decide) (by omega) (.slice A1 ys.length c1) ys z [.int .i64 z.f0, .int .i64 z.f1, .string z.f2, .slice A3 z.f3.length cp3] (fun k => W.heap.size + 3 ≤ k) (fun k => W.heap.size + 3 ≤ k ∧ some k ≠ (Value.slice A1 ys.length c1).ownBlock) rfl (by rw [hsz4.out]; rfl) HM.out (fun k hk => hk) (by have := hsz4.out; have := hl3.out; intro k hk; omega) HL4.out.row (Below.refl _ _) (by have := hsz4.out; omega) (by omega) ?_; intro v5 w5 ho5 hb5 hg5 hat5; have HG := Aside0.mk (HL4.out.grow hb5 hg5 ho5); obtain ⟨A5, cp5, e5⟩ := Kd.R_slice ho5; subst e5; have y3 : w5.cell? ⟨W.heap.size + 2, 3, none⟩ = some (.slice A1 ys.length c1) := (by have hh := blk_grown HL4.out.own hg5 (fun e => by have := HL4.out.row.1 _ e.symm; omega); exact (RAt.cells hh).1.2.2.2); have yf3 : w5.frozen? ⟨W.heap.size + 2, 3, none⟩ = false := (by have hh := blk_grown HL4.out.own hg5 (fun e => by have := HL4.out.row.1 _ e.symm; omega); exact (RAt.cells hh).2.2.2.2); clear ho5 hb5 hg5 hat5)
      refine ⟨⟨i + 1, .slice A5 (ys.length + 1) cp5, by go_num, by omega, by omega, ⟨?_⟩⟩, by simp [intOf]; omega⟩
      rw [hsn.out]
      have hh := HG.out
      rw [List.length_append] at hh
      exact hh
    · have hend := Lib.hid (show x.f3.take i = x.f3.take 5 by
        by_cases h5 : i = 5
        · rw [h5]
        · have : i = x.f3.length := by omega
          rw [this, List.take_of_length_le (Nat.le_refl _), List.take_of_length_le (by omega)])
      obtain ⟨A1, c1, rfl⟩ := Kd.R_slice HL.out.row
      have hsz := blk_lt HL.out.own
      have HR := Aside0.mk (show k24.R 24 wr W.heap.size (fun k => W.heap.size + 3 ≤ k) (.slice A1 ((x.f3.take 5).map (deepS d)).length c1) ((x.f3.take 5).map (deepS d)) by rw [← hend.out]; exact HL.out.row)
      obtain ⟨⟨z0, z1, z2, z3⟩, zf0, zf1, zf2, zf3⟩ := HL.out.own.cells
      obtain ⟨⟨y0, y1, y2, y3⟩, yf0, yf1, yf2, yf3⟩ := HL.out.res.cells
      rw [hend.out] at z3
      generalize hys : (x.f3.take 5).map (deepS d) = ys at z3 HR ⊢
      have HP := Aside0.mk (rat_put4 HL.out.res (.int .i64 6) (.int .i64 0) (.string ⟨#[]⟩) (.slice A1 ys.length c1))
      obtain ⟨⟨p0, p1, p2, p3⟩, _⟩ := HP.out.cells
      have hM := Aside0.mk (show k24.M (put4 wr (W.heap.size + 1) (.int .i64 6) (.int .i64 0) (.string ⟨#[]⟩) (.slice A1 ys.length c1)) W.heap.size (fun _ => True) ⟨6, 0, ⟨#[]⟩, ys⟩ [.int .i64 6, .int .i64 0, .string ⟨#[]⟩, .slice A1 ys.length c1] from
        k24_mkM _ _ _ ⟨6, 0, ⟨#[]⟩, ys⟩ (Kd.R_mono (Kd.R_keep HR.out (put4_keep wr _ _ _ _ _) (fun k hk => by omega)) (fun _ _ => trivial)))
      have hB := Aside0.mk (put4_below (.int .i64 6) (.int .i64 0) (.string ⟨#[]⟩) (.slice A1 ys.length c1) (g := W.heap.size + 1) HL.out.below (by omega))
      have HY := Lib.hid (show List.take 5 (List.map (deepS d) x.f3) = ys by rw [← List.map_take]; exact hys)
      clear hys
      by_cases hl : i < x.f3.length
      · have h5 : ¬ (i : Int) < 5 := by omega
        have hl' : (i : Int) < (x.f3.length : Int) := by omega
        go_wp2_with fail
        rw [HY.out]
        exact bodyPost_ret (v := agv ⟨6, 0, ⟨#[]⟩, ys⟩ A1 c1) (by simp [results, Tryd.results25, go_sem, p0, p1, p2, p3]) rfl ⟨⟨A1, c1, rfl, hM.out⟩, hB.out⟩
      · have hl' : ¬ (i : Int) < (x.f3.length : Int) := by omega
        go_wp2_with fail
        rw [HY.out]
        exact bodyPost_ret (v := agv ⟨6, 0, ⟨#[]⟩, ys⟩ A1 c1) (by simp [results, Tryd.results25, go_sem, p0, p1, p2, p3]) rfl ⟨⟨A1, c1, rfl, hM.out⟩, hB.out⟩
end Go.Proofs.YtbdfjiobegadjaaDoor.Wr
