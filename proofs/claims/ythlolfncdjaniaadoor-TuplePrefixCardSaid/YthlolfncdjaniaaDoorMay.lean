/- The walks of tuple's bare and may, at an item that may be. -/
import Derived.Test.YthlolfncdjaniaaDoorCmp
namespace Go.Proofs.YthlolfncdjaniaaDoor.Tu
open Go Go.RowKit Go.Proofs.YthlolfncdjaniaaDoor.PTuplePrefix Go.Proofs.YthlolfncdjaniaaDoorW.PrintWords Go.Proofs.YthlolfncdjaniaaDoorW.PrintLast Go.Proofs.YthlolfncdjaniaaDoorW.PrintMore
set_option linter.unusedVariables false
set_option linter.unusedSectionVars false
set_option linter.unusedSimpArgs false
structure BareOk (x : S46) (W : World) (e : Ending) (W' : World) : Prop where
  end_ : ∃ B k, e = .returned (.agg #[.int .i64 x.f0, .int .i64 x.f1, .string x.f2, .slice B x.f3.length k])
  below : Below W.heap.size W W'
theorem mid (w : World) (o1 : Obj) (cs : Array Value) (o3 : Obj) : (((w.alloc o1).alloc (.cells cs 46)).alloc o3).heap[w.heap.size + 1]? = some (.cells cs 46 (0, 0)) := by
  have e1 : (w.alloc o1).heap.size = w.heap.size + 1 := by simp
  rw [← e1]
  exact ((MapKept.heap_alloc _ _).2 _ (by simp)).trans (MapKept.heap_alloc _ _).1
set_option maxHeartbeats 4000000 in
set_option maxRecDepth 100000 in
theorem bare_any (d : Nat) (x : S46) (hx : Ok46 d x) (A : Option Addr) (c : Nat) (W : World) : Calls Tryd.prog 61 #[agv x A c] W (BareOk x W) := by
  cases hx with
  | null =>
    go_enter Tryd.func61, Tryd.ntmps61
    go_wp2_with fail
    refine bodyPost_ret (results_cell_row rfl _ _ (W.heap.size + 1) 46 _ (0, 0) _ rfl (mid W _ _ _) Tryd.underlying46 rfl (by kernel_rfl)) rfl ?_
    exact ⟨⟨_, _, rfl⟩, below_alloc (below_alloc (below_alloc (Below.refl _ _) _) _) _⟩
  | flag _ n h =>
    go_enter Tryd.func61, Tryd.ntmps61
    go_wp2_with fail
    refine bodyPost_ret (results_cell_row rfl _ _ (W.heap.size + 1) 46 _ (0, 0) _ rfl (mid W _ _ _) Tryd.underlying46 rfl (by kernel_rfl)) rfl ?_
    exact ⟨⟨_, _, rfl⟩, below_alloc (below_alloc (below_alloc (Below.refl _ _) _) _) _⟩
  | num _ n h =>
    go_enter Tryd.func61, Tryd.ntmps61
    go_wp2_with fail
    refine bodyPost_ret (results_cell_row rfl _ _ (W.heap.size + 1) 46 _ (0, 0) _ rfl (mid W _ _ _) Tryd.underlying46 rfl (by kernel_rfl)) rfl ?_
    exact ⟨⟨_, _, rfl⟩, below_alloc (below_alloc (below_alloc (Below.refl _ _) _) _) _⟩
  | text _ t h =>
    go_enter Tryd.func61, Tryd.ntmps61
    go_wp2_with fail
    refine bodyPost_ret (results_cell_row rfl _ _ (W.heap.size + 1) 46 _ (0, 0) _ rfl (mid W _ _ _) Tryd.underlying46 rfl (by kernel_rfl)) rfl ?_
    exact ⟨⟨_, _, rfl⟩, below_alloc (below_alloc (below_alloc (Below.refl _ _) _) _) _⟩
  | list _ l hl hok =>
    go_enter Tryd.func61, Tryd.ntmps61
    go_wp2_with fail
    refine bodyPost_ret (results_cell_row rfl _ _ (W.heap.size + 1) 46 _ (0, 0) _ rfl (mid W _ _ _) Tryd.underlying46 rfl (by kernel_rfl)) rfl ?_
    exact ⟨⟨_, _, rfl⟩, below_alloc (below_alloc (below_alloc (Below.refl _ _) _) _) _⟩
theorem arg_at {W w1 : World} {x : S46} {A : Option Addr} {c : Nat} (hb : Below (W.alloc (ago x A c)).heap.size (W.alloc (ago x A c)) w1) (o : Obj) : RAt (w1.alloc o) W.heap.size (.int .i64 x.f0) (.int .i64 x.f1) (.string x.f2) (.slice A x.f3.length c) := by
  have h1 : w1.heap[W.heap.size]? = some (ago x A c) := (hb.block _ (by simp)).trans (MapKept.heap_alloc _ _).1
  exact ((MapKept.heap_alloc _ _).2 _ (blk_lt h1)).trans h1
theorem arg_below {W w1 : World} {x : S46} {A : Option Addr} {c : Nat} (hb : Below (W.alloc (ago x A c)).heap.size (W.alloc (ago x A c)) w1) (o : Obj) : Below W.heap.size W (w1.alloc o) := by
  have h0 : Below W.heap.size W (W.alloc (ago x A c)) := below_alloc (Below.refl _ _) _
  have h1 := h0.trans (hb.mono h0.size)
  exact below_alloc h1 _
set_option maxHeartbeats 4000000 in
set_option maxRecDepth 100000 in
theorem may_any (d : Nat) (x : S46) (hx : Ok46 d x) (A : Option Addr) (c : Nat) (W : World) : Calls Tryd.prog 51 #[agv x A c] W (BoolOk true W) := by
  have hb := Lib.hid (fun W => bare_any d x hx A c W)
  cases hx with
  | null =>
    go_enter Tryd.func51, Tryd.ntmps51
    go_wp2_with fail
    go_at_call 61
    refine (hb.out _).mono ?_
    rintro _ w1 ⟨⟨B, k, rfl⟩, hb1⟩
    have HA := Aside0.mk (fun o => arg_below (x := ⟨1, 0, ⟨#[]⟩, []⟩) hb1 o)
    have a0 := fun o => ((arg_at (x := ⟨1, 0, ⟨#[]⟩, []⟩) hb1 o).cells).1.1
    have a1 := fun o => ((arg_at (x := ⟨1, 0, ⟨#[]⟩, []⟩) hb1 o).cells).1.2.1
    have a2 := fun o => ((arg_at (x := ⟨1, 0, ⟨#[]⟩, []⟩) hb1 o).cells).1.2.2.1
    have a3 := fun o => ((arg_at (x := ⟨1, 0, ⟨#[]⟩, []⟩) hb1 o).cells).1.2.2.2
    clear hb1
    go_wp2_with fail
    go_ret
    exact ⟨rfl, HA.out _⟩
  | flag _ n h =>
    rcases h with rfl | rfl
    · go_enter Tryd.func51, Tryd.ntmps51
      go_wp2_with fail
      go_at_call 61
      refine (hb.out _).mono ?_
      rintro _ w1 ⟨⟨B, k, rfl⟩, hb1⟩
      have HA := Aside0.mk (fun o => arg_below (x := ⟨2, 0, ⟨#[]⟩, []⟩) hb1 o)
      have a0 := fun o => ((arg_at (x := ⟨2, 0, ⟨#[]⟩, []⟩) hb1 o).cells).1.1
      have a1 := fun o => ((arg_at (x := ⟨2, 0, ⟨#[]⟩, []⟩) hb1 o).cells).1.2.1
      have a2 := fun o => ((arg_at (x := ⟨2, 0, ⟨#[]⟩, []⟩) hb1 o).cells).1.2.2.1
      have a3 := fun o => ((arg_at (x := ⟨2, 0, ⟨#[]⟩, []⟩) hb1 o).cells).1.2.2.2
      clear hb1
      go_wp2_with fail
      go_ret
      exact ⟨rfl, HA.out _⟩
    · go_enter Tryd.func51, Tryd.ntmps51
      go_wp2_with fail
      go_at_call 61
      refine (hb.out _).mono ?_
      rintro _ w1 ⟨⟨B, k, rfl⟩, hb1⟩
      have HA := Aside0.mk (fun o => arg_below (x := ⟨2, 1, ⟨#[]⟩, []⟩) hb1 o)
      have a0 := fun o => ((arg_at (x := ⟨2, 1, ⟨#[]⟩, []⟩) hb1 o).cells).1.1
      have a1 := fun o => ((arg_at (x := ⟨2, 1, ⟨#[]⟩, []⟩) hb1 o).cells).1.2.1
      have a2 := fun o => ((arg_at (x := ⟨2, 1, ⟨#[]⟩, []⟩) hb1 o).cells).1.2.2.1
      have a3 := fun o => ((arg_at (x := ⟨2, 1, ⟨#[]⟩, []⟩) hb1 o).cells).1.2.2.2
      clear hb1
      go_wp2_with fail
      go_ret
      exact ⟨rfl, HA.out _⟩
  | num _ n h =>
    go_enter Tryd.func51, Tryd.ntmps51
    go_wp2_with fail
    go_at_call 61
    refine (hb.out _).mono ?_
    rintro _ w1 ⟨⟨B, k, rfl⟩, hb1⟩
    have HA := Aside0.mk (fun o => arg_below (x := ⟨3, n, ⟨#[]⟩, []⟩) hb1 o)
    have a0 := fun o => ((arg_at (x := ⟨3, n, ⟨#[]⟩, []⟩) hb1 o).cells).1.1
    have a1 := fun o => ((arg_at (x := ⟨3, n, ⟨#[]⟩, []⟩) hb1 o).cells).1.2.1
    have a2 := fun o => ((arg_at (x := ⟨3, n, ⟨#[]⟩, []⟩) hb1 o).cells).1.2.2.1
    have a3 := fun o => ((arg_at (x := ⟨3, n, ⟨#[]⟩, []⟩) hb1 o).cells).1.2.2.2
    clear hb1
    go_wp2_with fail
    go_ret
    exact ⟨rfl, HA.out _⟩
  | text _ t h =>
    go_enter Tryd.func51, Tryd.ntmps51
    go_wp2_with fail
    go_at_call 61
    refine (hb.out _).mono ?_
    rintro _ w1 ⟨⟨B, k, rfl⟩, hb1⟩
    have HA := Aside0.mk (fun o => arg_below (x := ⟨4, 0, t, []⟩) hb1 o)
    have a0 := fun o => ((arg_at (x := ⟨4, 0, t, []⟩) hb1 o).cells).1.1
    have a1 := fun o => ((arg_at (x := ⟨4, 0, t, []⟩) hb1 o).cells).1.2.1
    have a2 := fun o => ((arg_at (x := ⟨4, 0, t, []⟩) hb1 o).cells).1.2.2.1
    have a3 := fun o => ((arg_at (x := ⟨4, 0, t, []⟩) hb1 o).cells).1.2.2.2
    clear hb1
    go_wp2_with fail
    go_ret
    exact ⟨rfl, HA.out _⟩
  | list _ l hl hok =>
    go_enter Tryd.func51, Tryd.ntmps51
    go_wp2_with fail
    go_at_call 61
    refine (hb.out _).mono ?_
    rintro _ w1 ⟨⟨B, k, rfl⟩, hb1⟩
    have HA := Aside0.mk (fun o => arg_below (x := ⟨5, 0, ⟨#[]⟩, l⟩) hb1 o)
    have a0 := fun o => ((arg_at (x := ⟨5, 0, ⟨#[]⟩, l⟩) hb1 o).cells).1.1
    have a1 := fun o => ((arg_at (x := ⟨5, 0, ⟨#[]⟩, l⟩) hb1 o).cells).1.2.1
    have a2 := fun o => ((arg_at (x := ⟨5, 0, ⟨#[]⟩, l⟩) hb1 o).cells).1.2.2.1
    have a3 := fun o => ((arg_at (x := ⟨5, 0, ⟨#[]⟩, l⟩) hb1 o).cells).1.2.2.2
    clear hb1
    go_wp2_with fail
    go_ret
    exact ⟨rfl, HA.out _⟩
end Go.Proofs.YthlolfncdjaniaaDoor.Tu
